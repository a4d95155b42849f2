/- codec.Reader: End; NewReader. -/
import Derived.Test.YtjiffflhedekfaaRdu
namespace Go.Proofs.Ytjiffflhedekfaa
open Go.RowKit

/-- What 'End' tells. -/
def endR (S : RS) : Int × Int :=
  match S.ft with
  | some (e, a) => (e, a)
  | none => if S.at_ < S.L.length then (4, (S.at_ : Int)) else (0, 0)

set_option maxRecDepth 100000 in
set_option maxHeartbeats 1000000 in
/-- codec.NewReader. -/
theorem newReader_any (ao : Option Addr) (l : List Int) (c : Nat) (w : World) (hl : Rb w ao l) (bl : Bs l) (nl : l.length ≤ 140737488355328) :
    Calls Try.prog 59 #[.slice ao l.length c] w fun e w' => ∃ r ao' c', e = .returned (.pointer (some ⟨r, 0, none⟩)) ∧ Rdr w' w.heap.size r ⟨l, 0, none⟩ ao' c' none ∧ Below w.heap.size w w' := by
  have HC := Lib.hid (cloneB_any ao l c w hl nl)
  have HB := Lib.hid bl
  clear hl bl
  go_enter Try.func59, Try.ntmps59
  go_wp2_with fail
  refine HC.out.mono ?_
  rintro e w1 ⟨ao', cap, rfl, hown, hb⟩
  have hs : w.heap.size ≤ w1.heap.size := hb.size
  have HO := Lib.hid hown
  have HW := Lib.hid hb
  clear hown hb
  go_wp2_with fail
  go_ret
  refine ⟨w1.heap.size, ao', cap, rfl, ⟨heap_at w1 _ rfl, HO.out.alloc _, fun p hp => by have := (HO.out.low p hp).2; omega, hs, .inl ⟨rfl, rfl⟩, HB.out, Nat.zero_le _, nl⟩, HW.out.alloc hs _⟩

set_option maxRecDepth 100000 in
set_option maxHeartbeats 1000000 in
/-- (*codec.Reader).End. -/
theorem end_any {W : World} {base r : Nat} {S : RS} {ao : Option Addr} {c : Nat} {fp : Option Addr} (h : Rdr W base r S ao c fp) :
    Calls Try.prog 62 #[.pointer (some ⟨r, 0, none⟩)] W fun e w' => e = .returned (.agg #[.int .i64 (endR S).1, .int .i64 (endR S).2]) ∧ Below W.heap.size W w' := by
  have hW := (Below.refl W.heap.size W).alloc (Nat.le_refl _) (.cells #[.int .i64 0, .int .i64 0] 49)
  have HN := Lib.hid (rnone_any (h.step hW))
  obtain ⟨a0, a1, a2, a3, f0, f1, f2, f3⟩ := four (h.step hW).hr
  obtain ⟨a0', a1', a2', a3', f0', f1', f2', f3'⟩ := four h.hr
  rcases h.fa with ⟨h1, h2⟩ | ⟨e, a, f, h1, h2, h3, _⟩
  · subst h2
    have hle := h.le
    have hln := h.len
    by_cases hlt : S.at_ < S.L.length
    · have HU : Hid (endR S = (4, (S.at_ : Int))) := Lib.hid (by unfold endR; rw [h1]; simp only [if_pos hlt])
      clear h1 h hW
      go_enter Try.func62, Try.ntmps62
      go_wp2_with fail
      refine HN.out.mono ?_
      rintro en w' ⟨rfl, rfl⟩
      go_wp2_with fail
      go_quiet (fail)
      go_wp2_with fail
      refine bodyPost_ret (v := .agg #[.int .i64 4, .int .i64 S.at_]) (by simp [results, Try.results62, go_sem]) rfl ?_
      rw [HU.out]
      exact ⟨rfl, ((below_drewN ((Below.refl W.heap.size W).alloc (Nat.le_refl _) _) nq).setCell (p := ⟨W.heap.size, 0, none⟩) (Nat.le_refl _) _).setCell (p := ⟨W.heap.size, 1, none⟩) (Nat.le_refl _) _⟩
    · have HU : Hid (endR S = (0, 0)) := Lib.hid (by unfold endR; rw [h1]; simp only [if_neg hlt])
      clear h1 h hW
      go_enter Try.func62, Try.ntmps62
      go_wp2_with fail
      refine HN.out.mono ?_
      rintro en w' ⟨rfl, rfl⟩
      go_wp2_with fail
      go_quiet (fail)
      go_wp2_with fail
      refine bodyPost_ret (v := .agg #[.int .i64 0, .int .i64 0]) (by simp [results, Try.results62, go_sem]) rfl ?_
      rw [HU.out]
      exact ⟨rfl, ((below_drewN ((Below.refl W.heap.size W).alloc (Nat.le_refl _) _) nq).setCell (p := ⟨W.heap.size, 0, none⟩) (Nat.le_refl _) _).setCell (p := ⟨W.heap.size, 1, none⟩) (Nat.le_refl _) _⟩
  · subst h2
    have HU : Hid (endR S = (e, a)) := Lib.hid (by unfold endR; rw [h1])
    have hl : W.heap.size ≠ f := by have := (Array.getElem?_eq_some_iff.1 h3).1; omega
    have h3' := (heap_old W (.cells #[.int .i64 0, .int .i64 0] 49) (by have := (Array.getElem?_eq_some_iff.1 h3).1; omega)).trans h3
    obtain ⟨b0, b1, _⟩ := two h3'
    obtain ⟨c0, c1, _⟩ := two h3
    clear h1 h hW h3 h3'
    go_enter Try.func62, Try.ntmps62
    go_wp2_with fail
    refine HN.out.mono ?_
    rintro en w' ⟨rfl, rfl⟩
    go_wp2_with fail
    refine bodyPost_ret (v := .agg #[.int .i64 e, .int .i64 a]) (by simp [results, Try.results62, go_sem]) rfl ?_
    rw [HU.out]
    exact ⟨rfl, (Below.refl W.heap.size W).alloc (Nat.le_refl _) _⟩
end Go.Proofs.Ytjiffflhedekfaa
