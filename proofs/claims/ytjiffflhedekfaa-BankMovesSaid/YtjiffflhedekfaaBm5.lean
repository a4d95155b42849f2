/- BankMoves: the loop, out of its rounds. -/
import Derived.Test.YtjiffflhedekfaaBm4
import Derived.Deep.LoopGhost
namespace Go.Proofs.Ytjiffflhedekfaa
open Go.RowKit

theorem loopAll {w W : World} {acc : Int} {la : Option Addr} {n lc bb bi bx bY : Nat} {A : Array Value} {B : Bk} {ai ab : Option Addr} {ci cb : Nat} {l : List Ac} {Q : Exit → Act → World → Prop}
    (hl : l.length = n) (hn : n ≤ 30) (hA : ActsAt w la l) (h : At w acc la n lc bb bi bx bY 0 A W B ai ab ci cb)
    (hE : ∀ A' W' e f k', Fr A' (.int .i64 acc) (.slice la n lc) (ptr bb) (ptr bi) (ptr bx) e (ptr bY) f k' → Below w.heap.size w W' → Q (.exit 0) ⟨A', []⟩ W') :
    Code.wp Try.prog (.loop (bm [])) Q ⟨A, []⟩ W := by
  refine wp_loop_ghost (fun m a W => a.defers = [] ∧ ∃ k B ai ab ci cb, m = n - k ∧ k ≤ n ∧ At w acc la n lc bb bi bx bY k a.tmps W B ai ab ci cb) n ⟨rfl, 0, _, _, _, _, _, by omega, by omega, h⟩ ?_
  rintro m ⟨A1, d1⟩ W1 ⟨hd, k, B1, ai1, ab1, ci1, cb1, hm, hk, hAt⟩
  simp only at hd hAt
  subst hd
  refine round hl hn hA hk hAt (fun hlt A2 W2 B2 ai2 ab2 ci2 cb2 h2 => ?_) (fun A2 W2 B2 ai2 ab2 ci2 cb2 h2 => ?_)
  · exact ⟨n - (k + 1), by omega, rfl, k + 1, _, _, _, _, _, rfl, by omega, h2⟩
  · obtain ⟨⟨e, f, hF⟩, hR, _, _⟩ := h2
    exact hE _ _ _ _ _ hF hR.below
end Go.Proofs.Ytjiffflhedekfaa
