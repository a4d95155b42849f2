/- BankMoves: what holds behind a move's answers. -/
import Derived.Test.YtjiffflhedekfaaBm0
namespace Go.Proofs.Ytjiffflhedekfaa
open Go.RowKit
theorem own_lt {w : World} {base : Nat} {ao : Option Addr} {cap : Nat} {l : List Int} (h : OwnW w base ao cap l) : ∀ p, ao = some p → p.block < w.heap.size := fun p hp => by
  subst hp
  rcases h.2 with ⟨h1, _⟩ | ⟨g, cap', cur, h1, _, h3, _⟩
  · simp at h1
  · simp only [Value.slice.injEq, Option.some.injEq, true_and] at h1
    rw [h1.1]; exact lt_of_block h3
theorem own_form {w : World} {base : Nat} {ao : Option Addr} {cap : Nat} {l : List Int} (h : OwnW w base ao cap l) : (ao = none ∧ l.length = 0) ∨ ∃ g, ao = some ⟨g, 0, none⟩ := by
  rcases h.2 with ⟨h1, h0⟩ | ⟨g, cap', cur, h1, _, h3, _⟩
  · simp only [Value.slice.injEq] at h1
    exact .inl ⟨h1.1, h0⟩
  · simp only [Value.slice.injEq, true_and] at h1
    exact .inr ⟨g, h1.1⟩
theorem Rd.set5 {w : World} {ao : Option Addr} {l : List Int} (h : Rd w ao l) {b : Nat} (hb : ∀ q, ao = some q → l.length ≠ 0 → q.block ≠ b) (v0 v1 v2 v3 v4 : Value) : Rd (set5 w b v0 v1 v2 v3 v4) ao l := fun k hk => by
  obtain ⟨c, o, h1, h2⟩ := h k hk
  have hc := hb _ h1 (by omega)
  refine ⟨c, o, h1, ?_⟩
  rw [← h2]
  have := heap_set5_other w (b := b) (k := c) hc v0 v1 v2 v3 v4
  simp only [World.cell?, this]

/-- Behind the program's answer: the variable x holds it. -/
structure RelX (w W : World) (bb bi bx bY : Nat) (B : Bk) (ai ab : Option Addr) (ci cb : Nat) (X : Bk) (ax : Option Addr) (cx : Nat) : Prop where
  rel : Rel w W bb bi bx bY B ai ab ci cb
  hX : W.heap[bx]? = some (bobj ax X cx)
  own : OwnW W w.heap.size ax cx X.L
  away : ∀ p, ax = some p → p.block ≠ bb ∧ p.block ≠ bi ∧ p.block ≠ bx ∧ p.block ≠ bY
  apart : ∀ p q, ax = some p → ai = some q → p.block ≠ q.block
/-- Behind both answers. -/
structure RelXY (w W : World) (bb bi bx bY : Nat) (B : Bk) (ai ab : Option Addr) (ci cb : Nat) (X : Bk) (ax aY : Option Addr) (cx cy : Nat) : Prop where
  relx : RelX w W bb bi bx bY B ai ab ci cb X ax cx
  hY : W.heap[bY]? = some (bobj aY X cy)
  own : OwnW W w.heap.size aY cy X.L
  away : ∀ p, aY = some p → p.block ≠ bb ∧ p.block ≠ bi ∧ p.block ≠ bx ∧ p.block ≠ bY
  apart : ∀ p q, aY = some p → ai = some q → p.block ≠ q.block
  apart' : ∀ p q, aY = some p → ax = some q → p.block ≠ q.block

section
variable {w W : World} {bb bi bx bY : Nat} {B X : Bk} {ai ab ax aY : Option Addr} {ci cb cx cy : Nat}
theorem RelX.step (h : RelX w W bb bi bx bY B ai ab ci cb X ax cx) {W' : World} (hB : Below W.heap.size W W') : RelX w W' bb bi bx bY B ai ab ci cb X ax cx :=
  ⟨h.rel.step hB, (hB.block _ h.rel.lt.2.2.1).trans h.hX, h.own.below hB, h.away, h.apart⟩
theorem RelXY.step (h : RelXY w W bb bi bx bY B ai ab ci cb X ax aY cx cy) {W' : World} (hB : Below W.heap.size W W') : RelXY w W' bb bi bx bY B ai ab ci cb X ax aY cx cy :=
  ⟨h.relx.step hB, (hB.block _ h.relx.rel.lt.2.2.2).trans h.hY, h.own.below hB, h.away, h.apart, h.apart'⟩
/-- The answer is stored into x. -/
theorem Rel.setX (h : Rel w W bb bi bx bY B ai ab ci cb) {w1 : World} (hB : Below W.heap.size W w1) (ho : OwnW w1 W.heap.size ax cx X.L) :
    RelX w (set5 w1 bx (.slice ax X.L.length cx) (.int .u64 X.p0) (.int .u64 X.p1) (.int .u64 X.p2) (.int .u64 X.p3)) bb bi bx bY B ai ab ci cb X ax cx := by
  have h1 := h.step hB
  obtain ⟨l1, l2, l3, l4⟩ := h.lt
  obtain ⟨n1, n2, n3, n4, n5, n6⟩ := h.ne
  obtain ⟨o1, o2, o3, o4⟩ := h.lo
  obtain ⟨_, _, _, _, _, hx⟩ := h1.hx
  obtain ⟨u0, u1, u2, u3, u4, hy⟩ := h1.hy
  have hlow := ho.low
  have hai := own_lt h.own
  have hs := h.below.size
  have hax : ∀ p, ax = some p → p.block ≠ bb ∧ p.block ≠ bi ∧ p.block ≠ bx ∧ p.block ≠ bY := fun p hp => by have := hlow p hp; omega
  refine ⟨⟨below_set5 h1.below o3 _ _ _ _ _, h.lo, h.ne, ?_, ?_, ⟨_, _, _, _, _, heap_set5 hx _ _ _ _ _⟩, ⟨u0, u1, u2, u3, u4, ?_⟩, h1.own.set5 (fun p hp => (h.away p hp).2.2.1) _ _ _ _ _, h1.rd.set5 (fun q hq hl => (h.away' q hq hl).2.2.1) _ _ _ _ _, h.away, h.away', h.apart⟩,
    heap_set5 hx _ _ _ _ _, (ho.set5 (fun p hp => (hax p hp).2.2.1) _ _ _ _ _).mono hs, hax, fun p q hp hq => by have := hlow p hp; have := hai q hq; omega⟩
  · rw [heap_set5_other _ (by omega)]; exact h1.hi
  · rw [heap_set5_other _ (by omega)]; exact h1.hb
  · rw [heap_set5_other _ (by omega)]; exact hy
theorem RelX.setY (h : RelX w W bb bi bx bY B ai ab ci cb X ax cx) {w1 : World} (hB : Below W.heap.size W w1) (ho : OwnW w1 W.heap.size aY cy X.L) :
    RelXY w (set5 w1 bY (.slice aY X.L.length cy) (.int .u64 X.p0) (.int .u64 X.p1) (.int .u64 X.p2) (.int .u64 X.p3)) bb bi bx bY B ai ab ci cb X ax aY cx cy := by
  have h1 := h.step hB
  obtain ⟨l1, l2, l3, l4⟩ := h.rel.lt
  obtain ⟨n1, n2, n3, n4, n5, n6⟩ := h.rel.ne
  obtain ⟨o1, o2, o3, o4⟩ := h.rel.lo
  obtain ⟨_, _, _, _, _, hy⟩ := h1.rel.hy
  have hlow := ho.low
  have hai := own_lt h.rel.own
  have hax := own_lt h.own
  have hs := h.rel.below.size
  have hay : ∀ p, aY = some p → p.block ≠ bb ∧ p.block ≠ bi ∧ p.block ≠ bx ∧ p.block ≠ bY := fun p hp => by have := hlow p hp; omega
  refine ⟨⟨⟨below_set5 h1.rel.below o4 _ _ _ _ _, h.rel.lo, h.rel.ne, ?_, ?_, ⟨_, _, _, _, _, (show (set5 w1 bY (.slice aY X.L.length cy) (.int .u64 X.p0) (.int .u64 X.p1) (.int .u64 X.p2) (.int .u64 X.p3)).heap[bx]? = _ by rw [heap_set5_other _ (by omega)]; exact h1.hX)⟩, ⟨_, _, _, _, _, heap_set5 hy _ _ _ _ _⟩, h1.rel.own.set5 (fun p hp => (h.rel.away p hp).2.2.2) _ _ _ _ _, h1.rel.rd.set5 (fun q hq hl => (h.rel.away' q hq hl).2.2.2) _ _ _ _ _, h.rel.away, h.rel.away', h.rel.apart⟩,
    ?_, h1.own.set5 (fun p hp => (h.away p hp).2.2.2) _ _ _ _ _, h.away, h.apart⟩,
    heap_set5 hy _ _ _ _ _, (ho.set5 (fun p hp => (hay p hp).2.2.2) _ _ _ _ _).mono hs, hay, fun p q hp hq => by have := hlow p hp; have := hai q hq; omega, fun p q hp hq => by have := hlow p hp; have := hax q hq; omega⟩
  · rw [heap_set5_other _ (by omega)]; exact h1.rel.hi
  · rw [heap_set5_other _ (by omega)]; exact h1.rel.hb
  · rw [heap_set5_other _ (by omega)]; exact h1.hX
end
end Go.Proofs.Ytjiffflhedekfaa
