/- The walks of Have. -/
import Derived.Test.YtjiffflhedekfaaSml
namespace Go.Proofs.Ytjiffflhedekfaa
open Go.RowKit

/-- What 'Have' tells: the amount, the error. -/
def haveR (B : Bk) (i : Int) : Int × Int :=
  if B.chk ≠ 0 then (0, B.chk) else if thereE B.L.length i ≠ 0 then (0, 10) else (B.L.getD i.toNat 0, 0)
theorem haveR_chk {B : Bk} {i : Int} (h : B.chk ≠ 0) : haveR B i = (0, B.chk) := if_pos h
theorem haveR_no {B : Bk} {i : Int} (h : B.chk = 0) (hi : ¬ (0 ≤ i ∧ i < B.L.length)) : haveR B i = (0, 10) := by
  unfold haveR; rw [if_neg (by simp [h]), if_pos (by rw [thereE_no hi]; decide)]
theorem haveR_yes {B : Bk} {k : Nat} (h : B.chk = 0) (hi : k < B.L.length) : haveR B k = (B.L.getD k 0, 0) := by
  unfold haveR; rw [if_neg (by simp [h]), if_neg (by rw [thereE_yes (by omega) (by omega)]; decide)]; simp

set_option maxRecDepth 100000 in
set_option maxHeartbeats 1600000 in
/-- bank.Have. -/
theorem have_any (ao : Option Addr) (B : Bk) (c : Nat) (i : Int) (w : World) (hB : Rd w ao B.L) (hw : B.Wf) (nB : B.L.length ≤ 9223372036854775807) :
    Calls Try.prog 19 #[.agg #[.slice ao B.L.length c, .int .u64 B.p0, .int .u64 B.p1, .int .u64 B.p2, .int .u64 B.p3], .int .i64 i] w
      fun e w' => e = .returned (.tuple #[.int .u64 (haveR B i).1, .int .i64 (haveR B i).2]) ∧ Below w.heap.size w w' := by
  have HK := Lib.hid (check_any ao B c (w.alloc (.cells #[.slice ao B.L.length c, .int .u64 B.p0, .int .u64 B.p1, .int .u64 B.p2, .int .u64 B.p3] 26)) (hB.alloc _) hw nB)
  by_cases hk : B.chk = 0
  · rw [hk] at HK
    by_cases hi : 0 ≤ i ∧ i < B.L.length
    · obtain ⟨h0, h1⟩ := hi
      obtain ⟨k, rfl⟩ := Int.eq_ofNat_of_zero_le h0
      have hkl : k < B.L.length := by omega
      obtain ⟨bb, oo, rfl, hc⟩ := hB k hkl
      have HR := Lib.hid (haveR_yes hk hkl)
      have HX := Lib.hid hc
      have hlt := World.block_lt_of_cell? w _ hc
      dsimp only at hlt
      generalize B.L.getD k 0 = x at *
      clear hk hB hc h0 h1
      go_enter Try.func19, Try.ntmps19
      go_wp2_with fail
      refine HK.out.mono ?_
      rintro e w1 ⟨rfl, hb⟩
      have HD := Lib.hid hb
      have HH := Lib.hid ((hb.block w.heap.size (by simp)).trans (heap_at w _ rfl))
      have hcx : w1.cell? ⟨bb, oo + k, none⟩ = some (.int .u64 x) := by
        rw [hb.cell (by simp; omega), World.cell?_alloc_past _ _ _ hlt]; exact HX.out
      obtain ⟨k0, k1, k2, k3, k4, _⟩ := five HH.out
      clear hb
      go_wp2_with (go_at_call 48; refine (accIn_yes k w.heap.size bb oo B.L.length c _ hkl nB k0).mono ?_; rintro e w2 ⟨rfl, rfl⟩)
      go_ret2
      exact ⟨by rw [HR.out]; rfl, ((Below.refl _ _).alloc (Nat.le_refl _) _).trans (HD.out.mono (by simp))⟩
    · have HR := Lib.hid (haveR_no hk hi)
      have HI := Lib.hid hi
      clear hk hi hB
      go_enter Try.func19, Try.ntmps19
      go_wp2_with fail
      refine HK.out.mono ?_
      rintro e w1 ⟨rfl, hb⟩
      have HD := Lib.hid hb
      have HH := Lib.hid ((hb.block w.heap.size (by simp)).trans (heap_at w _ rfl))
      obtain ⟨k0, k1, k2, k3, k4, _⟩ := five HH.out
      clear hb
      go_wp2_with (go_at_call 48; refine (accIn_no i w.heap.size B.L.length c ao _ HI.out nB k0).mono ?_; rintro e w2 ⟨rfl, rfl⟩)
      go_ret2
      exact ⟨by rw [HR.out]; rfl, ((Below.refl _ _).alloc (Nat.le_refl _) _).trans (HD.out.mono (by simp))⟩
  · have HR := Lib.hid (haveR_chk (i := i) hk)
    generalize B.chk = er at *
    have hq : (er != 0) = true := by rw [bne_iff_ne]; exact hk
    clear hk hB
    go_enter Try.func19, Try.ntmps19
    go_wp2_with fail
    refine HK.out.mono ?_
    rintro e w1 ⟨rfl, hb⟩
    have HD := Lib.hid hb
    clear hb
    go_wp2_with fail
    go_ret2
    exact ⟨by rw [HR.out]; rfl, ((Below.refl _ _).alloc (Nat.le_refl _) _).trans (HD.out.mono (by simp))⟩

set_option maxRecDepth 100000 in
set_option maxHeartbeats 1600000 in
/-- distraintref09.Have. -/
theorem refHave_any (ao : Option Addr) (B : Bk) (c : Nat) (i : Int) (w : World) (hB : Rd w ao B.L) (hw : B.Wf) (nB : B.L.length ≤ 9223372036854775807) :
    Calls Try.prog 20 #[.agg #[.slice ao B.L.length c, .int .u64 B.p0, .int .u64 B.p1, .int .u64 B.p2, .int .u64 B.p3], .int .i64 i] w
      fun e w' => e = .returned (.tuple #[.int .u64 (haveR B i).1, .int .i64 (haveR B i).2]) ∧ Below w.heap.size w w' := by
  have HK := Lib.hid (refCheck_any ao B c (w.alloc (.cells #[.slice ao B.L.length c, .int .u64 B.p0, .int .u64 B.p1, .int .u64 B.p2, .int .u64 B.p3] 26)) (hB.alloc _) hw nB)
  by_cases hk : B.chk = 0
  · rw [hk] at HK
    by_cases hi : 0 ≤ i ∧ i < B.L.length
    · obtain ⟨h0, h1⟩ := hi
      have HT := Lib.hid (thereE_yes h0 h1)
      obtain ⟨k, rfl⟩ := Int.eq_ofNat_of_zero_le h0
      have hkl : k < B.L.length := by omega
      obtain ⟨bb, oo, rfl, hc⟩ := hB k hkl
      have HR := Lib.hid (haveR_yes hk hkl)
      have HX := Lib.hid hc
      have hlt := World.block_lt_of_cell? w _ hc
      dsimp only at hlt
      generalize B.L.getD k 0 = x at *
      clear hk hB hc h0 h1
      go_enter Try.func20, Try.ntmps20
      go_wp2_with fail
      refine HK.out.mono ?_
      rintro e w1 ⟨rfl, hb⟩
      have hs1 : w.heap.size + 1 ≤ w1.heap.size := by have := hb.size; simpa using this
      have HD := Lib.hid hb
      have HH := Lib.hid ((hb.block w.heap.size (by simp)).trans (heap_at w _ rfl))
      have hcx : w1.cell? ⟨bb, oo + k, none⟩ = some (.int .u64 x) := by
        rw [hb.cell (by simp; omega), World.cell?_alloc_past _ _ _ hlt]; exact HX.out
      have HCX := Lib.hid hcx
      obtain ⟨k0, k1, k2, k3, k4, _⟩ := five HH.out
      clear hb hcx
      go_wp2_with fail
      refine (there_any _ B c _ _ nB).mono ?_
      rintro e w2 ⟨rfl, hb⟩
      have HD2 := Lib.hid hb
      have HH2 := Lib.hid ((hb.block w.heap.size (by omega)).trans HH.out)
      have hcx : w2.cell? ⟨bb, oo + k, none⟩ = some (.int .u64 x) := by
        rw [hb.cell (by simp; omega)]; exact HCX.out
      obtain ⟨m0, m1, m2, m3, m4, _⟩ := five HH2.out
      rw [HT.out]
      clear hb k0 k1 k2 k3 k4
      go_wp2_with fail
      go_ret2
      exact ⟨by rw [HR.out]; rfl, (((Below.refl _ _).alloc (Nat.le_refl _) _).trans (HD.out.mono (by simp))).trans (HD2.out.mono (by omega))⟩
    · have HT := Lib.hid (thereE_no hi)
      have HR := Lib.hid (haveR_no hk hi)
      clear hk hi hB
      go_enter Try.func20, Try.ntmps20
      go_wp2_with fail
      refine HK.out.mono ?_
      rintro e w1 ⟨rfl, hb⟩
      have hs1 : w.heap.size + 1 ≤ w1.heap.size := by have := hb.size; simpa using this
      have HD := Lib.hid hb
      have HH := Lib.hid ((hb.block w.heap.size (by simp)).trans (heap_at w _ rfl))
      obtain ⟨k0, k1, k2, k3, k4, _⟩ := five HH.out
      clear hb
      go_wp2_with fail
      refine (there_any ao B c i _ nB).mono ?_
      rintro e w2 ⟨rfl, hb⟩
      have HD2 := Lib.hid hb
      rw [HT.out]
      clear hb k0 k1 k2 k3 k4
      go_wp2_with fail
      go_ret2
      exact ⟨by rw [HR.out]; rfl, (((Below.refl _ _).alloc (Nat.le_refl _) _).trans (HD.out.mono (by simp))).trans (HD2.out.mono (by omega))⟩
  · have HR := Lib.hid (haveR_chk (i := i) hk)
    generalize B.chk = er at *
    have hq : (er != 0) = true := by rw [bne_iff_ne]; exact hk
    clear hk hB
    go_enter Try.func20, Try.ntmps20
    go_wp2_with fail
    refine HK.out.mono ?_
    rintro e w1 ⟨rfl, hb⟩
    have HD := Lib.hid hb
    clear hb
    go_wp2_with fail
    go_ret2
    exact ⟨by rw [HR.out]; rfl, ((Below.refl _ _).alloc (Nat.le_refl _) _).trans (HD.out.mono (by simp))⟩
end Go.Proofs.Ytjiffflhedekfaa
