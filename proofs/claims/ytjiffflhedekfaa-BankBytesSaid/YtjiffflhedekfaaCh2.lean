/- The walks of both Checks and of the small functions of the reference. -/
import Derived.Test.YtjiffflhedekfaaChk
namespace Go.Proofs.Ytjiffflhedekfaa
open Go.RowKit

theorem Bk.tot_nonneg {B : Bk} (h : B.Wf) : 0 ≤ B.tot := by rw [← B.sum_all]; exact h.all.sum_nonneg
theorem chk_empty {B : Bk} (h : B.L.length = 0) : B.chk = 3 := by simp [Bk.chk, h]
theorem chk_long {B : Bk} (h : 64 < B.L.length) : B.chk = 4 := by
  unfold Bk.chk; rw [if_neg (by omega), if_pos h]
theorem chk_ok {B : Bk} (h0 : B.L.length ≠ 0) (h1 : B.L.length ≤ 64) (h : B.tot ≤ 4611686018427387904) : B.chk = 0 := by
  unfold Bk.chk; rw [if_neg h0, if_neg (by omega), sup_of h]; rfl
theorem chk_over {B : Bk} (h0 : B.L.length ≠ 0) (h1 : B.L.length ≤ 64) (h : 4611686018427387904 < B.tot) : B.chk = 12 := by
  unfold Bk.chk; rw [if_neg h0, if_neg (by omega), sup_not h]; rfl

set_option maxRecDepth 100000 in
set_option maxHeartbeats 1600000 in
/-- distraintref09.Check. -/
theorem refCheck_any (ao : Option Addr) (B : Bk) (c : Nat) (w : World) (hB : Rd w ao B.L) (hw : B.Wf) (nB : B.L.length ≤ 9223372036854775807) :
    Calls Try.prog 22 #[.agg #[.slice ao B.L.length c, .int .u64 B.p0, .int .u64 B.p1, .int .u64 B.p2, .int .u64 B.p3]] w
      fun e w' => e = .returned (.int .i64 B.chk) ∧ Below w.heap.size w w' := by
  have hb1 : ∀ o : Obj, Below w.heap.size w (w.alloc o) := fun o => (Below.refl _ _).alloc (Nat.le_refl _) o
  by_cases h0 : B.L.length = 0
  · have HC := Lib.hid (chk_empty h0)
    have hq : ((B.L.length : Int) == 0) = true := by rw [beq_iff_eq]; omega
    clear h0
    go_enter Try.func22, Try.ntmps22
    go_wp2_with fail
    go_ret
    exact ⟨by rw [HC.out]; rfl, hb1 _⟩
  · have hq : ((B.L.length : Int) == 0) = false := by rw [beq_eq_false_iff_ne]; omega
    by_cases h64 : 64 < B.L.length
    · have HC := Lib.hid (chk_long h64)
      clear h0
      go_enter Try.func22, Try.ntmps22
      go_wp2_with fail
      go_ret
      exact ⟨by rw [HC.out]; rfl, hb1 _⟩
    · have hall := all_any ao B c (w.alloc (.cells #[.slice ao B.L.length c, .int .u64 B.p0, .int .u64 B.p1, .int .u64 B.p2, .int .u64 B.p3] 26)) (hB.alloc _) (by omega)
      have HA := Lib.hid hall
      have hsum := fun ao' cap (W : World) (h : Rd W ao' B.all) => refSum_any ao' B.all cap W hw.all h (by simp [Bk.all]; omega)
      rw [B.sum_all] at hsum
      have HS := Lib.hid hsum
      clear hall hsum
      have ht0 := Bk.tot_nonneg hw
      by_cases hbig : 18446744073709551615 < B.tot
      · have HC := Lib.hid (chk_over h0 (by omega) (show 4611686018427387904 < B.tot by omega))
        have e1 : sumV B.tot = 0 := by simp [sumV, big_of hbig]
        have e2 : sumE B.tot = 12 := by simp [sumE, big_of hbig]
        go_enter Try.func22, Try.ntmps22
        go_wp2_with fail
        refine HA.out.mono ?_
        rintro e w1 ⟨ao', cap, rfl, hown, hb⟩
        have HB := Lib.hid ((hb1 _).trans (hb.mono (by simp)))
        have HO := Lib.hid hown
        clear hb hown
        go_wp2_with fail
        refine (HS.out ao' cap _ HO.out.rd).mono ?_
        rintro e w2 ⟨rfl, rfl⟩
        rw [e1, e2]
        go_wp2_with fail
        go_ret
        exact ⟨by rw [HC.out]; rfl, HB.out⟩
      · have e1 : sumV B.tot = B.tot := by simp [sumV, big_not (show B.tot ≤ 18446744073709551615 by omega)]
        have e2 : sumE B.tot = 0 := by simp [sumE, big_not (show B.tot ≤ 18446744073709551615 by omega)]
        rw [e1, e2] at HS
        by_cases hsup : 4611686018427387904 < B.tot
        · have HC := Lib.hid (chk_over h0 (by omega) hsup)
          clear e1 e2
          go_enter Try.func22, Try.ntmps22
          go_wp2_with fail
          refine HA.out.mono ?_
          rintro e w1 ⟨ao', cap, rfl, hown, hb⟩
          have HB := Lib.hid ((hb1 _).trans (hb.mono (by simp)))
          have HO := Lib.hid hown
          clear hb hown
          go_wp2_with fail
          refine (HS.out ao' cap _ HO.out.rd).mono ?_
          rintro e w2 ⟨rfl, rfl⟩
          go_wp2_with fail
          go_ret
          exact ⟨by rw [HC.out]; rfl, HB.out⟩
        · have HC := Lib.hid (chk_ok h0 (by omega) (show B.tot ≤ 4611686018427387904 by omega))
          clear e1 e2
          go_enter Try.func22, Try.ntmps22
          go_wp2_with fail
          refine HA.out.mono ?_
          rintro e w1 ⟨ao', cap, rfl, hown, hb⟩
          have HB := Lib.hid ((hb1 _).trans (hb.mono (by simp)))
          have HO := Lib.hid hown
          clear hb hown
          go_wp2_with fail
          refine (HS.out ao' cap _ HO.out.rd).mono ?_
          rintro e w2 ⟨rfl, rfl⟩
          go_wp2_with fail
          go_ret
          exact ⟨by rw [HC.out]; rfl, HB.out⟩

theorem rd_pools {w : World} {b : Nat} {v0 : Value} {p0 p1 p2 p3 : Int} {t : TypeId} (h : w.heap[b]? = some (.cells #[v0, .int .u64 p0, .int .u64 p1, .int .u64 p2, .int .u64 p3] t (0, 0))) : Rd w (some ⟨b, 1, none⟩) [p0, p1, p2, p3] :=
  fun k hk => ⟨b, 1, rfl, (five_at h (by simpa using hk)).1⟩
/-- bank.sum of a bank's accounts and pools. -/
theorem bsum2_any (g b : Nat) (ao : Option Addr) (B : Bk) (c : Nat) (w : World) (hg : w.heap[g]? = some (.cells #[.slice ao B.L.length c, .slice (some ⟨b, 1, none⟩) 4 4] 22 (0, 0)))
    (hb : w.heap[b]? = some (.cells #[.slice ao B.L.length c, .int .u64 B.p0, .int .u64 B.p1, .int .u64 B.p2, .int .u64 B.p3] 26 (0, 0))) (hB : Rd w ao B.L) (hw : B.Wf) (nB : B.L.length ≤ 9223372036854775807) :
    Calls Try.prog 45 #[.slice (some ⟨g, 0, none⟩) 2 2] w fun e w' => e = .returned (.tuple #[.int .u64 (supV B.tot), .int .i64 (supE B.tot)]) ∧ w = w' := by
  have h := bsum_any g 0 [(ao, c, B.L), (some ⟨b, 1, none⟩, 4, [B.p0, B.p1, B.p2, B.p3])] 2 w (fun k hk => by
    match k, hk with
    | 0, _ => simp [World.cell?, hg]
    | 1, _ => simp [World.cell?, hg]) (fun x hx => by
    simp only [List.mem_cons, List.not_mem_nil, or_false] at hx
    rcases hx with rfl | rfl
    · exact hB
    · exact rd_pools hb) (fun x hx => by
    simp only [List.mem_cons, List.not_mem_nil, or_false] at hx
    rcases hx with rfl | rfl
    · exact hw.L
    · exact hw.pools) (fun x hx => by
    simp only [List.mem_cons, List.not_mem_nil, or_false] at hx
    rcases hx with rfl | rfl
    · exact nB
    · simp) (by simp)
  have e : tot [(ao, c, B.L), (some ⟨b, 1, none⟩, 4, [B.p0, B.p1, B.p2, B.p3])] = B.tot := by simp [tot, Bk.tot]
  rw [e] at h
  exact h
/-- bank.sum of a bank's accounts. -/
theorem bsum1_any (g : Nat) (ao : Option Addr) (L : List Int) (c : Nat) (w : World) (hg : w.heap[g]? = some (.cells #[.slice ao L.length c] 22 (0, 0))) (hB : Rd w ao L) (hw : Ws L) (nB : L.length ≤ 9223372036854775807) :
    Calls Try.prog 45 #[.slice (some ⟨g, 0, none⟩) 1 1] w fun e w' => e = .returned (.tuple #[.int .u64 (supV L.sum), .int .i64 (supE L.sum)]) ∧ w = w' := by
  have h := bsum_any g 0 [(ao, c, L)] 1 w (fun k hk => by
    match k, hk with
    | 0, _ => simp [World.cell?, hg]) (fun x hx => by
    simp only [List.mem_cons, List.not_mem_nil, or_false] at hx
    subst hx
    exact hB) (fun x hx => by
    simp only [List.mem_cons, List.not_mem_nil, or_false] at hx
    subst hx
    exact hw) (fun x hx => by
    simp only [List.mem_cons, List.not_mem_nil, or_false] at hx
    subst hx
    exact nB) (by simp)
  have e : tot [(ao, c, L)] = L.sum := by simp [tot]
  rw [e] at h
  exact h

set_option maxRecDepth 100000 in
set_option maxHeartbeats 1600000 in
/-- bank.Check. -/
theorem check_any (ao : Option Addr) (B : Bk) (c : Nat) (w : World) (hB : Rd w ao B.L) (hw : B.Wf) (nB : B.L.length ≤ 9223372036854775807) :
    Calls Try.prog 21 #[.agg #[.slice ao B.L.length c, .int .u64 B.p0, .int .u64 B.p1, .int .u64 B.p2, .int .u64 B.p3]] w
      fun e w' => e = .returned (.int .i64 B.chk) ∧ Below w.heap.size w w' := by
  have hb1 : ∀ o : Obj, Below w.heap.size w (w.alloc o) := fun o => (Below.refl _ _).alloc (Nat.le_refl _) o
  by_cases h0 : B.L.length = 0
  · have HC := Lib.hid (chk_empty h0)
    have hq : ((B.L.length : Int) == 0) = true := by rw [beq_iff_eq]; omega
    clear h0
    go_enter Try.func21, Try.ntmps21
    go_wp2_with fail
    go_ret
    exact ⟨by rw [HC.out]; rfl, hb1 _⟩
  · have hq : ((B.L.length : Int) == 0) = false := by rw [beq_eq_false_iff_ne]; omega
    by_cases h64 : 64 < B.L.length
    · have HC := Lib.hid (chk_long h64)
      clear h0
      go_enter Try.func21, Try.ntmps21
      go_wp2_with fail
      go_ret
      exact ⟨by rw [HC.out]; rfl, hb1 _⟩
    · have HB := Lib.hid hB
      have HE : Hid (B.chk = supE B.tot) := by
        by_cases hs : B.tot ≤ 4611686018427387904
        · exact Lib.hid (by rw [chk_ok h0 (by omega) hs]; simp [supE, sup_of hs])
        · exact Lib.hid (by rw [chk_over h0 (by omega) (by omega)]; simp [supE, sup_not (show 4611686018427387904 < B.tot by omega)])
      clear h0
      go_enter Try.func21, Try.ntmps21
      go_wp2_with fail
      go_region_held3 (fun w' => w'.cell? ⟨w.heap.size, 0, none⟩ = some (.slice ao B.L.length c))
        (first | go_keep)
        (first | (go_at_call 45; refine (bsum2_any _ w.heap.size ao B c _ (by exact heap_at (w.alloc _) _ (by simp)) (by exact (heap_old (w.alloc _) _ (by simp)).trans (heap_at w _ rfl)) (by exact (HB.out.alloc _).alloc _) hw nB).mono ?_; rintro e w1 ⟨rfl, rfl⟩))
      go_wp2
      go_ret
      exact ⟨by rw [HE.out]; rfl, by repeat (first | exact Below.refl _ _ | apply Below.drew | refine Below.alloc ?_ (by simp; try omega) _)⟩
end Go.Proofs.Ytjiffflhedekfaa
