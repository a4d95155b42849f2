/- The walks of Supply and Total, and of Have. -/
import Derived.Test.YtjiffflhedekfaaNew
namespace Go.Proofs.Ytjiffflhedekfaa
open Go.RowKit

theorem chk_zero {B : Bk} (h : B.chk = 0) : B.L.length ≠ 0 ∧ B.L.length ≤ 64 ∧ B.tot ≤ 4611686018427387904 := by
  unfold Bk.chk at h
  split at h
  · cases h
  · split at h
    · cases h
    · split at h
      · rename_i h0 h1 h2
        exact ⟨h0, by omega, by simpa [sup] using h2⟩
      · cases h
theorem sum_le_tot {B : Bk} (hw : B.Wf) : 0 ≤ B.L.sum ∧ B.L.sum ≤ B.tot := by
  have := hw.L.sum_nonneg; have := hw.p0.1; have := hw.p1.1; have := hw.p2.1; have := hw.p3.1
  unfold Bk.tot; omega

set_option maxRecDepth 100000 in
set_option maxHeartbeats 1600000 in
/-- bank.Supply. -/
theorem supply_any (ao : Option Addr) (B : Bk) (c : Nat) (w : World) (hB : Rd w ao B.L) (hw : B.Wf) (nB : B.L.length ≤ 9223372036854775807) :
    Calls Try.prog 15 #[.agg #[.slice ao B.L.length c, .int .u64 B.p0, .int .u64 B.p1, .int .u64 B.p2, .int .u64 B.p3]] w
      fun e w' => e = .returned (.tuple #[.int .u64 (if B.chk = 0 then B.tot else 0), .int .i64 B.chk]) ∧ Below w.heap.size w w' := by
  have HK := Lib.hid (check_any ao B c (w.alloc (.cells #[.slice ao B.L.length c, .int .u64 B.p0, .int .u64 B.p1, .int .u64 B.p2, .int .u64 B.p3] 26)) (hB.alloc _) hw nB)
  have HB := Lib.hid hB
  clear hB
  by_cases hk : B.chk = 0
  · have HZ := Lib.hid (chk_zero hk)
    have e1 : supV B.tot = B.tot := by simp [supV, sup_of HZ.out.2.2]
    have e2 : supE B.tot = 0 := by simp [supE, sup_of HZ.out.2.2]
    have HK0 := Lib.hid hk
    rw [hk] at HK
    clear hk
    go_enter Try.func15, Try.ntmps15
    go_wp2_with fail
    refine HK.out.mono ?_
    rintro e w1 ⟨rfl, hb⟩
    have hs1 : w.heap.size + 1 ≤ w1.heap.size := by have := hb.size; simpa using this
    have HD := Lib.hid hb
    have HH := Lib.hid ((hb.block w.heap.size (by simp)).trans (heap_at w _ rfl))
    obtain ⟨k0, k1, k2, k3, k4, _⟩ := five HH.out
    clear hb
    go_wp2_with fail
    go_region_held3 (fun w' => w'.cell? ⟨w.heap.size, 0, none⟩ = some (.slice ao B.L.length c))
        (first | go_keep)
        (first | (go_at_call 45; refine (bsum2_any _ w.heap.size ao B c _ (by exact heap_at _ _ (by simp)) (by exact (heap_old _ _ (by omega)).trans HH.out) (by exact ((HB.out.alloc _).below HD.out).alloc _) hw nB).mono ?_; rintro e w2 ⟨rfl, rfl⟩))
    go_wp2
    go_ret2
    exact ⟨by simp [HK0.out, e1, e2], (((((Below.refl _ _).alloc (Nat.le_refl _) _).trans (HD.out.mono (by simp))).drew).alloc (by simp; omega) _)⟩
  · have HK0 := Lib.hid hk
    generalize hE : B.chk = er at *
    have HE := Lib.hid hE
    have hq : (er != 0) = true := by rw [bne_iff_ne]; exact hk
    clear hk hE
    go_enter Try.func15, Try.ntmps15
    go_wp2_with fail
    refine HK.out.mono ?_
    rintro e w1 ⟨rfl, hb⟩
    have HD := Lib.hid hb
    clear hb
    go_wp2_with fail
    go_ret2
    exact ⟨by simp [HK0.out], ((Below.refl _ _).alloc (Nat.le_refl _) _).trans (HD.out.mono (by simp))⟩

set_option maxRecDepth 100000 in
set_option maxHeartbeats 1600000 in
/-- distraintref09.Supply. -/
theorem refSupply_any (ao : Option Addr) (B : Bk) (c : Nat) (w : World) (hB : Rd w ao B.L) (hw : B.Wf) (nB : B.L.length ≤ 9223372036854775807) :
    Calls Try.prog 16 #[.agg #[.slice ao B.L.length c, .int .u64 B.p0, .int .u64 B.p1, .int .u64 B.p2, .int .u64 B.p3]] w
      fun e w' => e = .returned (.tuple #[.int .u64 (if B.chk = 0 then B.tot else 0), .int .i64 B.chk]) ∧ Below w.heap.size w w' := by
  have HK := Lib.hid (refCheck_any ao B c (w.alloc (.cells #[.slice ao B.L.length c, .int .u64 B.p0, .int .u64 B.p1, .int .u64 B.p2, .int .u64 B.p3] 26)) (hB.alloc _) hw nB)
  have HB := Lib.hid hB
  clear hB
  by_cases hk : B.chk = 0
  · have HZ := Lib.hid (chk_zero hk)
    have e1 : sumV B.tot = B.tot := by simp [sumV, big_not (show B.tot ≤ 18446744073709551615 by have := HZ.out.2.2; omega)]
    have e2 : sumE B.tot = 0 := by simp [sumE, big_not (show B.tot ≤ 18446744073709551615 by have := HZ.out.2.2; omega)]
    have HA := Lib.hid (fun W h => all_any ao B c W h (by have := HZ.out.2.1; omega))
    have hsum := fun ao' cap (W : World) (h : Rd W ao' B.all) => refSum_any ao' B.all cap W hw.all h (by have := HZ.out.2.1; simp [Bk.all]; omega)
    rw [B.sum_all] at hsum
    have HS := Lib.hid hsum
    have HK0 := Lib.hid hk
    rw [hk] at HK
    clear hk hsum
    go_enter Try.func16, Try.ntmps16
    go_wp2_with fail
    refine HK.out.mono ?_
    rintro e w1 ⟨rfl, hb⟩
    have hs1 : w.heap.size + 1 ≤ w1.heap.size := by have := hb.size; simpa using this
    have HD := Lib.hid hb
    have HH := Lib.hid ((hb.block w.heap.size (by simp)).trans (heap_at w _ rfl))
    obtain ⟨k0, k1, k2, k3, k4, _⟩ := five HH.out
    clear hb
    go_wp2_with fail
    refine (HA.out _ ((HB.out.alloc _).below HD.out)).mono ?_
    rintro e w2 ⟨ao', cap, rfl, hown, hb2⟩
    have HO := Lib.hid hown
    have HD2 := Lib.hid hb2
    clear hown hb2
    go_wp2_with fail
    refine (HS.out ao' cap _ HO.out.rd).mono ?_
    rintro e w3 ⟨rfl, rfl⟩
    go_wp2_with fail
    go_ret2
    exact ⟨by simp [HK0.out, e1, e2], (((Below.refl _ _).alloc (Nat.le_refl _) _).trans (HD.out.mono (by simp))).trans (HD2.out.mono (by omega))⟩
  · have HK0 := Lib.hid hk
    generalize hE : B.chk = er at *
    have HE := Lib.hid hE
    have hq : (er != 0) = true := by rw [bne_iff_ne]; exact hk
    clear hk hE
    go_enter Try.func16, Try.ntmps16
    go_wp2_with fail
    refine HK.out.mono ?_
    rintro e w1 ⟨rfl, hb⟩
    have HD := Lib.hid hb
    clear hb
    go_wp2_with fail
    go_ret2
    exact ⟨by simp [HK0.out], ((Below.refl _ _).alloc (Nat.le_refl _) _).trans (HD.out.mono (by simp))⟩

set_option maxRecDepth 100000 in
set_option maxHeartbeats 1600000 in
/-- bank.Total. -/
theorem total_any (ao : Option Addr) (B : Bk) (c : Nat) (w : World) (hB : Rd w ao B.L) (hw : B.Wf) (nB : B.L.length ≤ 9223372036854775807) :
    Calls Try.prog 17 #[.agg #[.slice ao B.L.length c, .int .u64 B.p0, .int .u64 B.p1, .int .u64 B.p2, .int .u64 B.p3]] w
      fun e w' => e = .returned (.tuple #[.int .u64 (if B.chk = 0 then B.L.sum else 0), .int .i64 B.chk]) ∧ Below w.heap.size w w' := by
  have HK := Lib.hid (check_any ao B c (w.alloc (.cells #[.slice ao B.L.length c, .int .u64 B.p0, .int .u64 B.p1, .int .u64 B.p2, .int .u64 B.p3] 26)) (hB.alloc _) hw nB)
  have HB := Lib.hid hB
  clear hB
  by_cases hk : B.chk = 0
  · have HZ := Lib.hid (chk_zero hk)
    have hlt := sum_le_tot hw
    have e1 : supV B.L.sum = B.L.sum := by simp [supV, sup_of (show B.L.sum ≤ 4611686018427387904 by have := HZ.out.2.2; omega)]
    have e2 : supE B.L.sum = 0 := by simp [supE, sup_of (show B.L.sum ≤ 4611686018427387904 by have := HZ.out.2.2; omega)]
    have HK0 := Lib.hid hk
    rw [hk] at HK
    clear hk hlt
    go_enter Try.func17, Try.ntmps17
    go_wp2_with fail
    refine HK.out.mono ?_
    rintro e w1 ⟨rfl, hb⟩
    have hs1 : w.heap.size + 1 ≤ w1.heap.size := by have := hb.size; simpa using this
    have HD := Lib.hid hb
    have HH := Lib.hid ((hb.block w.heap.size (by simp)).trans (heap_at w _ rfl))
    obtain ⟨k0, k1, k2, k3, k4, _⟩ := five HH.out
    clear hb
    go_wp2_with (go_at_call 45; refine (bsum1_any _ ao B.L c _ (by exact heap_at _ _ (by simp)) (by exact ((HB.out.alloc _).below HD.out).alloc _) hw.L nB).mono ?_; rintro e w2 ⟨rfl, rfl⟩)
    go_ret2
    exact ⟨by simp [HK0.out, e1, e2], ((((Below.refl _ _).alloc (Nat.le_refl _) _).trans (HD.out.mono (by simp)))).alloc (by omega) _⟩
  · have HK0 := Lib.hid hk
    generalize hE : B.chk = er at *
    have HE := Lib.hid hE
    have hq : (er != 0) = true := by rw [bne_iff_ne]; exact hk
    clear hk hE
    go_enter Try.func17, Try.ntmps17
    go_wp2_with fail
    refine HK.out.mono ?_
    rintro e w1 ⟨rfl, hb⟩
    have HD := Lib.hid hb
    clear hb
    go_wp2_with fail
    go_ret2
    exact ⟨by simp [HK0.out], ((Below.refl _ _).alloc (Nat.le_refl _) _).trans (HD.out.mono (by simp))⟩

set_option maxRecDepth 100000 in
set_option maxHeartbeats 1600000 in
/-- distraintref09.Total. -/
theorem refTotal_any (ao : Option Addr) (B : Bk) (c : Nat) (w : World) (hB : Rd w ao B.L) (hw : B.Wf) (nB : B.L.length ≤ 9223372036854775807) :
    Calls Try.prog 18 #[.agg #[.slice ao B.L.length c, .int .u64 B.p0, .int .u64 B.p1, .int .u64 B.p2, .int .u64 B.p3]] w
      fun e w' => e = .returned (.tuple #[.int .u64 (if B.chk = 0 then B.L.sum else 0), .int .i64 B.chk]) ∧ Below w.heap.size w w' := by
  have HK := Lib.hid (refCheck_any ao B c (w.alloc (.cells #[.slice ao B.L.length c, .int .u64 B.p0, .int .u64 B.p1, .int .u64 B.p2, .int .u64 B.p3] 26)) (hB.alloc _) hw nB)
  have HB := Lib.hid hB
  clear hB
  by_cases hk : B.chk = 0
  · have HZ := Lib.hid (chk_zero hk)
    have hlt := sum_le_tot hw
    have e1 : sumV B.L.sum = B.L.sum := by simp [sumV, big_not (show B.L.sum ≤ 18446744073709551615 by have := HZ.out.2.2; omega)]
    have e2 : sumE B.L.sum = 0 := by simp [sumE, big_not (show B.L.sum ≤ 18446744073709551615 by have := HZ.out.2.2; omega)]
    have HK0 := Lib.hid hk
    rw [hk] at HK
    clear hk hlt
    go_enter Try.func18, Try.ntmps18
    go_wp2_with fail
    refine HK.out.mono ?_
    rintro e w1 ⟨rfl, hb⟩
    have hs1 : w.heap.size + 1 ≤ w1.heap.size := by have := hb.size; simpa using this
    have HD := Lib.hid hb
    have HH := Lib.hid ((hb.block w.heap.size (by simp)).trans (heap_at w _ rfl))
    obtain ⟨k0, k1, k2, k3, k4, _⟩ := five HH.out
    clear hb
    go_wp2_with (go_at_call 46; refine (refSum_any ao B.L c _ hw.L (by exact ((HB.out.alloc _).below HD.out)) nB).mono ?_; rintro e w2 ⟨rfl, rfl⟩)
    go_ret2
    exact ⟨by simp [HK0.out, e1, e2], (((Below.refl _ _).alloc (Nat.le_refl _) _).trans (HD.out.mono (by simp)))⟩
  · have HK0 := Lib.hid hk
    generalize hE : B.chk = er at *
    have HE := Lib.hid hE
    have hq : (er != 0) = true := by rw [bne_iff_ne]; exact hk
    clear hk hE
    go_enter Try.func18, Try.ntmps18
    go_wp2_with fail
    refine HK.out.mono ?_
    rintro e w1 ⟨rfl, hb⟩
    have HD := Lib.hid hb
    clear hb
    go_wp2_with fail
    go_ret2
    exact ⟨by simp [HK0.out], ((Below.refl _ _).alloc (Nat.le_refl _) _).trans (HD.out.mono (by simp))⟩
end Go.Proofs.Ytjiffflhedekfaa
