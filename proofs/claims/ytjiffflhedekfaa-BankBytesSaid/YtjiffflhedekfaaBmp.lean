/- What a move that is carried out makes of a bank: a bank again. -/
import Derived.Test.YtjiffflhedekfaaPl2
import Derived.Test.YtjiffflhedekfaaMv4
namespace Go.Proofs.Ytjiffflhedekfaa
open Go.RowKit

theorem chk_tot {B : Bk} (h : B.chk = 0) : B.tot ≤ 4611686018427387904 ∧ B.L.length ≤ 64 ∧ B.L.length ≠ 0 := by
  unfold Bk.chk at h
  split at h
  · cases h
  split at h
  · cases h
  split at h
  · rename_i h1 h2 h3
    simp [sup] at h3
    exact ⟨h3, by omega, h1⟩
  · cases h
theorem moveR_done {B : Bk} {f t : Pl} {n : Int} {bar : Bool} (hw : B.Wf) (hn : W64 n) (h : (moveR B f t n bar).2 = 0) :
    (moveR B f t n bar).1.Wf ∧ (moveR B f t n bar).1.L.length = B.L.length ∧ (moveR B f t n bar).1.tot = B.tot ∧ B.chk = 0 ∧ f.err B = 0 ∧ t.err B = 0 ∧ bar = false ∧ n ≤ f.get B := by
  unfold moveR at h ⊢
  by_cases h1 : B.chk ≠ 0
  · rw [if_pos h1] at h; exact absurd h h1
  rw [if_neg h1] at h ⊢
  by_cases h2 : f.err B ≠ 0
  · rw [if_pos h2] at h; exact absurd h h2
  rw [if_neg h2] at h ⊢
  by_cases h3 : t.err B ≠ 0
  · rw [if_pos h3] at h; exact absurd h h3
  rw [if_neg h3] at h ⊢
  cases bar with
  | true => simp at h
  | false =>
    simp only [Bool.false_eq_true, if_false] at h ⊢
    by_cases h4 : f.get B < n
    · rw [if_pos h4] at h; simp at h
    rw [if_neg h4]
    have e1 : B.chk = 0 := by omega
    have e2 : f.err B = 0 := by omega
    have e3 : t.err B = 0 := by omega
    have ht := (chk_tot e1).1
    have hg := Pl.get_le e2 hw
    have hn0 := hn.1
    have hw' : (f.set B (f.get B - n)).Wf := Pl.wf_set hw ⟨by omega, by omega⟩
    have e3' : t.err (f.set B (f.get B - n)) = 0 := by rw [Pl.err_set]; exact e3
    have hg' := Pl.get_le e3' hw'
    have ht' := Pl.tot_set e2 (f.get B - n)
    have ht'' := Pl.tot_set e3' (t.get (f.set B (f.get B - n)) + n)
    refine ⟨Pl.wf_set hw' ⟨by omega, by omega⟩, by simp only [Pl.set_len], by simp only []; omega, e1, e2, e3, trivial, by omega⟩
theorem doesR_ok {B : Bk} {k f t n : Int} (hw : B.Wf) (hn : W64 n) (hk : 0 ≤ k ∧ k ≤ 4) (h : (doesR B k f t n).2 = 0) :
    (doesR B k f t n).1.Wf ∧ (doesR B k f t n).1.L.length = B.L.length ∧ (doesR B k f t n).1.tot = B.tot := by
  unfold doesR at h ⊢
  rcases (show k = 0 ∨ k = 1 ∨ k = 2 ∨ k = 3 ∨ k = 4 by omega) with rfl | rfl | rfl | rfl | rfl <;> simp only [Int.reduceEq, if_true, if_false] at h ⊢ <;>
    exact ⟨(moveR_done hw hn h).1, (moveR_done hw hn h).2.1, (moveR_done hw hn h).2.2.1⟩
theorem moveR_le {B : Bk} {f t : Pl} {n : Int} {bar : Bool} {m : Nat} (h : B.L.length ≤ m) : (moveR B f t n bar).1.L.length ≤ m := by
  unfold moveR
  repeat' split
  all_goals first | (simp only [B0, List.length_nil]; omega) | (simp only [Pl.set_len]; omega)
theorem doesR_le {B : Bk} {k f t n : Int} {m : Nat} (h : B.L.length ≤ m) : (doesR B k f t n).1.L.length ≤ m := by
  unfold doesR sendR payR takeR movR
  repeat' split
  all_goals first | exact moveR_le h | (simp only [B0, List.length_nil]; omega)
end Go.Proofs.Ytjiffflhedekfaa
