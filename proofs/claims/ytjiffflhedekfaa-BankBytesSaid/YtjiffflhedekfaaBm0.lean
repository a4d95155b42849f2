/- BankMoves: what holds of the world between its statements. -/
import Derived.Test.YtjiffflhedekfaaAwk
import Derived.Test.YtjiffflhedekfaaRfB
import Derived.Test.YtjiffflhedekfaaBmf
import Derived.Test.YtjiffflhedekfaaHav
namespace Go.Proofs.Ytjiffflhedekfaa
open Go.RowKit

abbrev bval (ao : Option Addr) (B : Bk) (c : Nat) : Value := .agg #[.slice ao B.L.length c, .int .u64 B.p0, .int .u64 B.p1, .int .u64 B.p2, .int .u64 B.p3]
abbrev bobj (ao : Option Addr) (B : Bk) (c : Nat) : Obj := .cells #[.slice ao B.L.length c, .int .u64 B.p0, .int .u64 B.p1, .int .u64 B.p2, .int .u64 B.p3] 26

structure Rel (w W : World) (bb bi bx bY : Nat) (B : Bk) (ai ab : Option Addr) (ci cb : Nat) : Prop where
  below : Below w.heap.size w W
  lo : w.heap.size ≤ bb ∧ w.heap.size ≤ bi ∧ w.heap.size ≤ bx ∧ w.heap.size ≤ bY
  ne : bb ≠ bi ∧ bb ≠ bx ∧ bb ≠ bY ∧ bi ≠ bx ∧ bi ≠ bY ∧ bx ≠ bY
  hi : W.heap[bi]? = some (bobj ai B ci)
  hb : W.heap[bb]? = some (bobj ab B cb)
  hx : ∃ v0 v1 v2 v3 v4, W.heap[bx]? = some (.cells #[v0, v1, v2, v3, v4] 26 (0, 0))
  hy : ∃ v0 v1 v2 v3 v4, W.heap[bY]? = some (.cells #[v0, v1, v2, v3, v4] 26 (0, 0))
  own : OwnW W w.heap.size ai ci B.L
  rd : Rd W ab B.L
  away : ∀ p, ai = some p → p.block ≠ bb ∧ p.block ≠ bi ∧ p.block ≠ bx ∧ p.block ≠ bY
  away' : ∀ q, ab = some q → B.L.length ≠ 0 → q.block ≠ bb ∧ q.block ≠ bi ∧ q.block ≠ bx ∧ q.block ≠ bY
  apart : ∀ p q, ai = some p → ab = some q → B.L.length ≠ 0 → p.block ≠ q.block

section
variable {w W : World} {bb bi bx bY : Nat} {B : Bk} {ai ab : Option Addr} {ci cb : Nat}
theorem Rel.lt (h : Rel w W bb bi bx bY B ai ab ci cb) : bb < W.heap.size ∧ bi < W.heap.size ∧ bx < W.heap.size ∧ bY < W.heap.size := by
  obtain ⟨_, _, _, _, _, h1⟩ := h.hx
  obtain ⟨_, _, _, _, _, h2⟩ := h.hy
  exact ⟨(Array.getElem?_eq_some_iff.1 h.hb).1, (Array.getElem?_eq_some_iff.1 h.hi).1, (Array.getElem?_eq_some_iff.1 h1).1, (Array.getElem?_eq_some_iff.1 h2).1⟩
theorem Rel.step (h : Rel w W bb bi bx bY B ai ab ci cb) {W' : World} (hB : Below W.heap.size W W') : Rel w W' bb bi bx bY B ai ab ci cb := by
  obtain ⟨l1, l2, l3, l4⟩ := h.lt
  obtain ⟨v0, v1, v2, v3, v4, h1⟩ := h.hx
  obtain ⟨u0, u1, u2, u3, u4, h2⟩ := h.hy
  have hs := h.below.size
  exact ⟨h.below.trans (hB.mono hs), h.lo, h.ne, (hB.block _ l2).trans h.hi, (hB.block _ l1).trans h.hb, ⟨v0, v1, v2, v3, v4, (hB.block _ l3).trans h1⟩, ⟨u0, u1, u2, u3, u4, (hB.block _ l4).trans h2⟩,
    h.own.below hB, h.rd.below hB, h.away, h.away', h.apart⟩
end
/-- A part of a code. -/
def nav : Code → List Bool → Code
  | c, [] => c
  | .seq a _, false :: p => nav a p
  | .seq _ b, true :: p => nav b p
  | .loop c, _ :: p => nav c p
  | .block _ c, _ :: p => nav c p
  | .cond _ a _, false :: p => nav a p
  | .cond _ _ b, true :: p => nav b p
  | c, _ => c
noncomputable def bm (p : List Bool) : Code := nav (Try.f3.body.getD .skip) ([true, true, true, true, true, true, true, false, true, true, true] ++ p)
end Go.Proofs.Ytjiffflhedekfaa
