/- bank.Bytes. -/
import Derived.Test.YtjiffflhedekfaaByt
import Derived.Test.YtjiffflhedekfaaNew
import Derived.Test.YtjiffflhedekfaaRdM
import Derived.RegionTactic
import Derived.BigRegion
namespace Go.Proofs.Ytjiffflhedekfaa
open Go.RowKit

/-- A list's numbers as bytes. -/
def putA (l : List Int) : List Int := l.flatMap putL
/-- A bank's bytes. -/
def bytesL (B : Bk) : List Int := putL B.L.length ++ putA B.all
theorem putA_take (l : List Int) (k : Nat) (hk : k < l.length) : putA (l.take (k + 1)) = putA (l.take k) ++ putL (l.getD k 0) := by
  rw [List.take_succ_eq_append_getElem hk, putA, List.flatMap_append, getD_at hk]; simp [putA]
theorem putA_len (l : List Int) : (putA l).length ≤ 10 * l.length := by
  induction l with
  | nil => simp [putA]
  | cons x l ih => simp only [putA, List.flatMap_cons, List.length_append, List.length_cons] at ih ⊢; have := putF_len 9 x; simp only [putL] at *; omega
theorem putA_append (a b : List Int) : putA (a ++ b) = putA a ++ putA b := List.flatMap_append

/-- How memory stands in the loops of Bytes: the bank's variable, the list of lists, what has been written. -/
structure BySit (w wr : World) (b0 bs : Nat) (ao : Option Addr) (c : Nat) (B : Bk) (g cap : Nat) (l : List Int) : Prop where
  below : Below w.heap.size w wr
  lo : w.heap.size ≤ b0 ∧ w.heap.size ≤ bs
  h0 : wr.heap[b0]? = some (.cells #[.slice ao B.L.length c, .int .u64 B.p0, .int .u64 B.p1, .int .u64 B.p2, .int .u64 B.p3] 26 (0, 0))
  hs : wr.heap[bs]? = some (.cells #[.slice ao B.L.length c, .slice (some ⟨b0, 1, none⟩) 4 4] 22 (0, 0))
  own : OwnY wr w.heap.size (some ⟨g, 0, none⟩) cap l
  ne : g ≠ b0 ∧ g ≠ bs
section
variable {w wr : World} {b0 bs : Nat} {ao : Option Addr} {c : Nat} {B : Bk} {g cap : Nat} {l : List Int}
theorem BySit.step (h : BySit w wr b0 bs ao c B g cap l) {w' : World} (hb : Below wr.heap.size wr w') : BySit w w' b0 bs ao c B g cap l :=
  ⟨h.below.trans (hb.mono h.below.size), h.lo, (hb.block _ (lt_of_block h.h0)).trans h.h0, (hb.block _ (lt_of_block h.hs)).trans h.hs, h.own.below hb, h.ne⟩
theorem BySit.rd1 (h : BySit w wr b0 bs ao c B g cap l) : Rd wr (some ⟨b0, 1, none⟩) [B.p0, B.p1, B.p2, B.p3] := fun k hk => by
  refine ⟨b0, 1, rfl, ?_⟩
  exact (five_at h.h0 hk).1
/-- Behind an append. -/
theorem BySit.app (h : BySit w wr b0 bs ao c B g cap l) {w' : World} {g' cap' : Nat} {m : List Int} (hown : OwnY w' w.heap.size (some ⟨g', 0, none⟩) cap' m) (hgrow : wr.grownBy w' (some g)) (hloc : g' = g ∨ g' = wr.heap.size) : BySit w w' b0 bs ao c B g' cap' m := by
  have hgl := (h.own.low _ rfl).1
  have l0 := lt_of_block h.h0
  have l1 := lt_of_block h.hs
  simp only at hgl
  refine ⟨h.below.grown hgrow h.below.size (fun k e => by cases e; exact hgl), h.lo, (hgrow.block _ l0 (by simpa using h.ne.1.symm)).trans h.h0, (hgrow.block _ l1 (by simpa using h.ne.2.symm)).trans h.hs, hown, ?_⟩
  have := h.ne
  rcases hloc with rfl | rfl
  · exact h.ne
  · omega
end
end Go.Proofs.Ytjiffflhedekfaa
