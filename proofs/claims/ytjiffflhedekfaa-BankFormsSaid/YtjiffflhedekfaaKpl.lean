/- Plain laws of moves: what is refused tells no bank; what was burned never falls. -/
import Derived.Test.YtjiffflhedekfaaBmp
namespace Go.Proofs.Ytjiffflhedekfaa
open Go.RowKit

theorem moveR_refused {B : Bk} {f t : Pl} {n : Int} {bar : Bool} (h : (moveR B f t n bar).2 ≠ 0) : (moveR B f t n bar).1 = B0 := by
  unfold moveR at h ⊢
  split
  · rfl
  split
  · rfl
  split
  · rfl
  split
  · rfl
  split
  · rfl
  · rename_i h1 h2 h3 h4 h5
    rw [if_neg h1, if_neg h2, if_neg h3, if_neg h4, if_neg h5] at h
    exact absurd rfl h
theorem doesR_err {B : Bk} {k f t n : Int} (h : (doesR B k f t n).2 ≠ 0) : (doesR B k f t n).1 = B0 := by
  unfold doesR sendR payR takeR movR at h ⊢
  split
  · rw [if_pos ‹_›] at h; exact moveR_refused h
  rw [if_neg ‹_›] at h
  split
  · rw [if_pos ‹_›] at h; exact moveR_refused h
  rw [if_neg ‹_›] at h
  split
  · rw [if_pos ‹_›] at h; exact moveR_refused h
  rw [if_neg ‹_›] at h
  split
  · rw [if_pos ‹_›] at h; exact moveR_refused h
  rw [if_neg ‹_›] at h
  split
  · rw [if_pos ‹_›] at h; exact moveR_refused h
  · rfl
theorem Pl.set_p2 (p : Pl) (B : Bk) (x : Int) (h : p.isPool = true → p.err B = 0 → p.i ≠ 2) (he : p.err B = 0) : (p.set B x).p2 = B.p2 := by
  unfold Pl.set
  split
  · rename_i hp
    have h0 := Pl.err_pool hp he
    have h2 := h hp he
    rcases (show p.i = 0 ∨ p.i = 1 ∨ p.i = 3 by omega) with e | e | e <;> rw [e] <;> rfl
  · rfl
theorem Pl.set_up (p : Pl) (B : Bk) (n : Int) (hn : 0 ≤ n) (he : p.err B = 0) : B.p2 ≤ (p.set B (p.get B + n)).p2 := by
  by_cases h : p.isPool = true ∧ p.i = 2
  · obtain ⟨hp, hi⟩ := h
    unfold Pl.set Pl.get
    rw [if_pos hp, if_pos hp, hi]
    simp [Bk.setPool, Bk.pool]
    omega
  · rw [Pl.set_p2 p B _ (fun hp _ hi => h ⟨hp, hi⟩) he]
    omega
theorem moveR_p2 {B : Bk} {f t : Pl} {n : Int} {bar : Bool} (hw : B.Wf) (hn : W64 n) (h : (moveR B f t n bar).2 = 0) (hf : f.isPool = true → bar = false → f.i ≠ 2) : B.p2 ≤ (moveR B f t n bar).1.p2 := by
  obtain ⟨_, _, _, hc, e2, e3, hb, hle⟩ := moveR_done hw hn h
  have hm : (moveR B f t n bar).1 = t.set (f.set B (f.get B - n)) (t.get (f.set B (f.get B - n)) + n) := by
    unfold moveR
    rw [if_neg (by omega), if_neg (by omega), if_neg (by omega), hb]
    simp only [Bool.false_eq_true, if_false]
    rw [if_neg (by omega)]
  rw [hm]
  have h1 := Pl.set_p2 f B (f.get B - n) (fun hp _ => hf hp hb) e2
  have h2 := Pl.set_up t (f.set B (f.get B - n)) n hn.1 (by rw [Pl.err_set]; exact e3)
  omega
theorem doesR_p2 {B : Bk} {k f t n : Int} (hw : B.Wf) (hn : W64 n) (hk : 0 ≤ k ∧ k ≤ 4) (h : (doesR B k f t n).2 = 0) : B.p2 ≤ (doesR B k f t n).1.p2 := by
  unfold doesR at h ⊢
  rcases (show k = 0 ∨ k = 1 ∨ k = 2 ∨ k = 3 ∨ k = 4 by omega) with rfl | rfl | rfl | rfl | rfl <;> simp only [Int.reduceEq, if_true, if_false] at h ⊢
  · exact moveR_p2 hw hn h (fun hp => by simp at hp)
  · exact moveR_p2 hw hn h (fun _ hb => by simpa using hb)
  · exact moveR_p2 hw hn h (fun hp => by simp at hp)
  · exact moveR_p2 hw hn h (fun _ hb => by simp at hb; exact hb.2)
  · exact moveR_p2 hw hn h (fun _ hb => by simp at hb; exact hb)
theorem chk_same {B X : Bk} (hl : X.L.length = B.L.length) (ht : X.tot = B.tot) : X.chk = B.chk := by unfold Bk.chk; rw [hl, ht]
theorem doesR_chk {B : Bk} {k f t n : Int} (hw : B.Wf) (hn : W64 n) (hk : 0 ≤ k ∧ k ≤ 4) (h : (doesR B k f t n).2 = 0) : (doesR B k f t n).1.chk = B.chk :=
  chk_same (doesR_ok hw hn hk h).2.1 (doesR_ok hw hn hk h).2.2
end Go.Proofs.Ytjiffflhedekfaa
