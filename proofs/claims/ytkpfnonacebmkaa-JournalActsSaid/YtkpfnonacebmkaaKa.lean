/- The document's journal: none, Get, Depth, Cells; the document's Add and Sub. -/
import Derived.Test.YtkpfnonacebmkaaKt
namespace Go.Proofs.Ytkpfnonacebmkaa
open Go.RowKit

section
variable {W : World} {F : Nat → Prop} {r : Nat} {K : KS}
set_option maxHeartbeats 400000 in
theorem kNone_any {n cb cc : Nat} {lv : Value} (h : W.heap[r]? = some (.cells #[.slice (some ⟨cb, 0, none⟩) n cc, lv] 70 (0, 0))) (i : Int) :
    Calls Try.prog 41 #[.pointer (some ⟨r, 0, none⟩), .int .i64 i] W fun e w' => e = .returned (.bool (!inB n i)) ∧ W = w' := by
  obtain ⟨a0, a1, f0, f1⟩ := two h
  clear h
  by_cases h0 : i < 0
  · have hI : Hid (inB n i = false) := Lib.hid (by unfold inB; rw [decide_eq_false (by omega)]; rfl)
    go_enter Try.func41, Try.ntmps41
    go_wp2
    go_ret
    rw [hI.out]
    exact ⟨rfl, rfl⟩
  · have h0' : 0 ≤ i := by omega
    have q0 : decide (i < 0) = false := decide_eq_false h0
    clear h0
    by_cases h1 : (n : Int) ≤ i
    · have hI : Hid (inB n i = false) := Lib.hid (by unfold inB; rw [decide_eq_false (show ¬ i < n by omega), Bool.and_false])
      have q1 : decide ((n : Int) ≤ i) = true := decide_eq_true h1
      go_enter Try.func41, Try.ntmps41
      go_wp2
      go_ret
      rw [hI.out]
      exact ⟨rfl, rfl⟩
    · have h2 : i < n := by omega
      have hI : Hid (inB n i = true) := Lib.hid (inB_mk h0' h2)
      have q1 : decide ((n : Int) ≤ i) = false := decide_eq_false h1
      clear h1
      go_enter Try.func41, Try.ntmps41
      go_wp2
      go_ret
      rw [hI.out]
      exact ⟨rfl, rfl⟩

set_option maxHeartbeats 400000 in
theorem refAdd_any (a b : Int) (ha : W64 a) (hb : W64 b) (w : World) :
    Calls Try.prog 42 #[.int .u64 a, .int .u64 b] w fun e w' => e = .returned (.tuple #[.int .u64 (addR a b).1, .int .i64 (addR a b).2]) ∧ w = w' := by
  obtain ⟨ha, ha'⟩ := ha
  obtain ⟨hb, hb'⟩ := hb
  by_cases h : 18446744073709551615 < a + b
  · have h' : 18446744073709551615 - b < a := by omega
    have HR : Hid (addR a b = (0, 12)) := Lib.hid (by unfold addR; rw [if_pos h])
    clear h
    go_enter Try.func42, Try.ntmps42
    go_wp2
    go_ret2
    rw [HR.out]
    exact ⟨rfl, rfl⟩
  · have h' : a ≤ 18446744073709551615 - b := by omega
    have HR : Hid (addR a b = (a + b, 0)) := Lib.hid (by unfold addR; rw [if_neg h])
    have hs : a + b ≤ 18446744073709551615 := by omega
    clear h
    go_enter Try.func42, Try.ntmps42
    go_wp2
    go_ret2
    rw [HR.out]
    exact ⟨rfl, rfl⟩
set_option maxHeartbeats 400000 in
theorem refSub_any (a b : Int) (ha : W64 a) (hb : W64 b) (w : World) :
    Calls Try.prog 71 #[.int .u64 a, .int .u64 b] w fun e w' => e = .returned (.tuple #[.int .u64 (subR a b).1, .int .i64 (subR a b).2]) ∧ w = w' := by
  obtain ⟨ha, ha'⟩ := ha
  obtain ⟨hb, hb'⟩ := hb
  by_cases h : a < b
  · have HR : Hid (subR a b = (0, 13)) := Lib.hid (by unfold subR; rw [if_pos h])
    go_enter Try.func71, Try.ntmps71
    go_wp2
    go_ret2
    rw [HR.out]
    exact ⟨rfl, rfl⟩
  · have HR : Hid (subR a b = (a - b, 0)) := Lib.hid (by unfold subR; rw [if_neg h])
    have hm : b ≤ a := by omega
    clear h
    go_enter Try.func71, Try.ntmps71
    go_wp2
    go_ret2
    rw [HR.out]
    exact ⟨rfl, rfl⟩

set_option maxRecDepth 100000 in
set_option maxHeartbeats 800000 in
theorem kGet_any (h : Kn W F r K) (i : Int) :
    Calls Try.prog 44 #[.pointer (some ⟨r, 0, none⟩), .int .i64 i] W fun e w' => e = .returned (.tuple #[.int .u64 (K.get i).1, .int .i64 (K.get i).2]) ∧ W = w' := by
  obtain ⟨cb, cc, lv, ws, h⟩ := h
  have HN := kNone_any h.hr i
  by_cases hi : inB K.C.length i = true
  · rw [hi] at HN
    have HN := Lib.hid HN
    have HG : Hid (K.get i = (K.C.getD i.toNat 0, 0)) := Lib.hid (by unfold KS.get; rw [if_pos hi])
    obtain ⟨x0, x1⟩ := inB_of hi
    obtain ⟨k, rfl⟩ : ∃ k : Nat, i = k := ⟨i.toNat, by omega⟩
    obtain ⟨b0, b1, _⟩ := two h.hr
    have hk : k < K.C.length := by omega
    obtain ⟨c0, g0⟩ := h.cells.cell hk
    rw [Int.toNat_natCast] at HG
    generalize K.C.getD k 0 = x at *
    clear h hi
    go_enter Try.func44, Try.ntmps44
    go_wp2_with fail
    refine HN.out.mono ?_
    rintro e w' ⟨rfl, rfl⟩
    go_wp2_with fail
    go_ret2
    rw [HG.out]
    exact ⟨rfl, rfl⟩
  · rw [Bool.not_eq_true] at hi
    rw [hi] at HN
    have HN := Lib.hid HN
    have HG : Hid (K.get i = (0, 3)) := Lib.hid (by unfold KS.get; rw [hi]; rfl)
    clear h hi
    go_enter Try.func44, Try.ntmps44
    go_wp2_with fail
    refine HN.out.mono ?_
    rintro e w' ⟨rfl, rfl⟩
    go_wp2_with fail
    go_ret2
    rw [HG.out]
    exact ⟨rfl, rfl⟩
set_option maxHeartbeats 400000 in
theorem kDepth_any (h : Kn W F r K) : Calls Try.prog 45 #[.pointer (some ⟨r, 0, none⟩)] W fun e w' => e = .returned (.int .i64 K.L.length) ∧ W = w' := by
  obtain ⟨cb, cc, lv, ws, h⟩ := h
  obtain ⟨lo, lc, rfl, _⟩ := lv_len h.row
  obtain ⟨b0, b1, _⟩ := two h.hr
  clear h
  go_enter Try.func45, Try.ntmps45
  go_wp2_with fail
  go_ret
  exact ⟨rfl, rfl⟩
set_option maxHeartbeats 400000 in
theorem kCells_any (h : Kn W F r K) : Calls Try.prog 46 #[.pointer (some ⟨r, 0, none⟩)] W fun e w' => ∃ ao cap, e = .returned (.slice ao K.C.length cap) ∧ OwnW w' W.heap.size ao cap K.C ∧ Below W.heap.size W w' := by
  obtain ⟨cb, cc, lv, ws, h⟩ := h
  obtain ⟨b0, b1, _⟩ := two h.hr
  have HC := Lib.hid (copied_any _ K.C cc W h.cells.rd (by have := h.ok.most; omega))
  clear h
  go_enter Try.func46, Try.ntmps46
  go_wp2_with fail
  refine HC.out.mono ?_
  rintro e w' ⟨g, cap, rfl, hown, hb⟩
  have HO := Lib.hid (And.intro hown hb)
  clear hown hb
  go_wp2_with fail
  go_ret
  exact ⟨_, cap, rfl, HO.out.1, HO.out.2⟩
end
end Go.Proofs.Ytkpfnonacebmkaa
