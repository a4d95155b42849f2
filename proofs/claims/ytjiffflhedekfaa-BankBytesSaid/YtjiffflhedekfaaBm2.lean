/- BankMoves: the old accounts written over; the answers become the bank. -/
import Derived.Test.YtjiffflhedekfaaBm1
namespace Go.Proofs.Ytjiffflhedekfaa
open Go.RowKit

theorem overW_any {w : World} {base : Nat} {ao : Option Addr} {cap : Nat} {l : List Int} (h : OwnW w base ao cap l) (nl : l.length ≤ 9223372036854775807) :
    Calls Try.prog 14 #[.slice ao l.length cap] w fun e w' => e = .returned (.tuple #[]) ∧ w.grownBy w' (ao.map (·.block)) := by
  rcases own_form h with ⟨h0, h1⟩ | ⟨g, h0⟩
  · subst h0
    rw [h1]
    clear h h1 nl
    go_enter Try.func14, Try.ntmps14
    go_wp2_with fail
    go_loopw [2] (fun i wr => i = .int .i64 0 ∧ wr = w) (fun _ _ => 0)
    case atStart => exact ⟨rfl, rfl⟩
    case round =>
      obtain ⟨rfl, rfl⟩ := hrel
      go_wp2
      go_end0
      exact ⟨rfl, ⟨rfl, rfl, rfl, Nat.le_refl _, fun _ _ _ => rfl⟩⟩
  · subst h0
    exact overWords_any g l.length cap _ base w h nl

structure RelZ (w W : World) (bb bi bx bY : Nat) (X : Bk) (ax aY : Option Addr) (cx cy : Nat) : Prop where
  below : Below w.heap.size w W
  lo : w.heap.size ≤ bb ∧ w.heap.size ≤ bi ∧ w.heap.size ≤ bx ∧ w.heap.size ≤ bY
  ne : bb ≠ bi ∧ bb ≠ bx ∧ bb ≠ bY ∧ bi ≠ bx ∧ bi ≠ bY ∧ bx ≠ bY
  hi : ∃ v0 v1 v2 v3 v4, W.heap[bi]? = some (.cells #[v0, v1, v2, v3, v4] 26 (0, 0))
  hb : ∃ v0 v1 v2 v3 v4, W.heap[bb]? = some (.cells #[v0, v1, v2, v3, v4] 26 (0, 0))
  hX : W.heap[bx]? = some (bobj ax X cx)
  hY : W.heap[bY]? = some (bobj aY X cy)
  ownX : OwnW W w.heap.size ax cx X.L
  ownY : OwnW W w.heap.size aY cy X.L
  awX : ∀ p, ax = some p → p.block ≠ bb ∧ p.block ≠ bi ∧ p.block ≠ bx ∧ p.block ≠ bY
  awY : ∀ p, aY = some p → p.block ≠ bb ∧ p.block ≠ bi ∧ p.block ≠ bx ∧ p.block ≠ bY
  apart : ∀ p q, aY = some p → ax = some q → p.block ≠ q.block

theorem own_block {w w' : World} {base : Nat} {ao : Option Addr} {cap : Nat} {l : List Int} (h : OwnW w base ao cap l) (hb : ∀ p, ao = some p → w'.heap[p.block]? = w.heap[p.block]?) : OwnW w' base ao cap l :=
  ⟨h.1, h.2.imp id fun ⟨g, cap', cur, h1, h2, h3, r⟩ => ⟨g, cap', cur, h1, h2, (by
    simp only [Value.slice.injEq, true_and] at h1
    have := hb _ h1.1
    exact this.trans h3), r⟩⟩

section
variable {w W : World} {bb bi bx bY : Nat} {B X : Bk} {ai ab ax aY : Option Addr} {ci cb cx cy : Nat}
theorem RelXY.over (h : RelXY w W bb bi bx bY B ai ab ci cb X ax aY cx cy) {W' : World} (hg : W.grownBy W' (ai.map (·.block))) : RelZ w W' bb bi bx bY X ax aY cx cy := by
  have hai := h.relx.rel.own.low
  have hal := own_lt h.relx.rel.own
  obtain ⟨l1, l2, l3, l4⟩ := h.relx.rel.lt
  have keep : ∀ k, k < W.heap.size → (∀ p, ai = some p → p.block ≠ k) → W'.heap[k]? = W.heap[k]? := fun k hk hne => hg.block k hk (fun e => by
    cases ha : ai with
    | none => rw [ha] at e; cases e
    | some p => rw [ha] at e; simp at e; exact hne p ha e.symm)
  have haw := h.relx.rel.away
  refine ⟨h.relx.rel.below.grown hg h.relx.rel.below.size (fun k hk => by
    cases ha : ai with
    | none => rw [ha] at hk; cases hk
    | some p => rw [ha] at hk; simp at hk; have := hai p ha; omega), h.relx.rel.lo, h.relx.rel.ne,
    ⟨_, _, _, _, _, (keep _ l2 fun p hp => (haw p hp).2.1).trans h.relx.rel.hi⟩, ⟨_, _, _, _, _, (keep _ l1 fun p hp => (haw p hp).1).trans h.relx.rel.hb⟩,
    (keep _ l3 fun p hp => (haw p hp).2.2.1).trans h.relx.hX, (keep _ l4 fun p hp => (haw p hp).2.2.2).trans h.hY,
    own_block h.relx.own (fun p hp => keep _ (own_lt h.relx.own p hp) fun q hq => (h.relx.apart p q hp hq).symm),
    own_block h.own (fun p hp => keep _ (own_lt h.own p hp) fun q hq => (h.apart p q hp hq).symm), h.relx.away, h.away, h.apart'⟩
theorem RelZ.step (h : RelZ w W bb bi bx bY X ax aY cx cy) {W' : World} (hB : Below W.heap.size W W') : RelZ w W' bb bi bx bY X ax aY cx cy := by
  obtain ⟨v0, v1, v2, v3, v4, h1⟩ := h.hi
  obtain ⟨u0, u1, u2, u3, u4, h2⟩ := h.hb
  have lt : ∀ {k : Nat} {o : Obj}, W.heap[k]? = some o → k < W.heap.size := fun e => (Array.getElem?_eq_some_iff.1 e).1
  exact ⟨h.below.trans (hB.mono h.below.size), h.lo, h.ne, ⟨v0, v1, v2, v3, v4, (hB.block _ (lt h1)).trans h1⟩, ⟨u0, u1, u2, u3, u4, (hB.block _ (lt h2)).trans h2⟩, (hB.block _ (lt h.hX)).trans h.hX, (hB.block _ (lt h.hY)).trans h.hY,
    h.ownX.below hB, h.ownY.below hB, h.awX, h.awY, h.apart⟩
/-- 'in, b = x, y'. -/
theorem RelZ.swap (h : RelZ w W bb bi bx bY X ax aY cx cy) :
    Rel w (set5 (set5 W bi (.slice ax X.L.length cx) (.int .u64 X.p0) (.int .u64 X.p1) (.int .u64 X.p2) (.int .u64 X.p3)) bb (.slice aY X.L.length cy) (.int .u64 X.p0) (.int .u64 X.p1) (.int .u64 X.p2) (.int .u64 X.p3)) bb bi bx bY X ax aY cx cy := by
  obtain ⟨n1, n2, n3, n4, n5, n6⟩ := h.ne
  obtain ⟨o1, o2, o3, o4⟩ := h.lo
  obtain ⟨v0, v1, v2, v3, v4, h1⟩ := h.hi
  obtain ⟨u0, u1, u2, u3, u4, h2⟩ := h.hb
  refine ⟨below_set5 (below_set5 h.below o2 _ _ _ _ _) o1 _ _ _ _ _, h.lo, h.ne, ?_, ?_, ⟨_, _, _, _, _, (?_ : _ = some (bobj ax X cx))⟩, ⟨_, _, _, _, _, (?_ : _ = some (bobj aY X cy))⟩,
    (h.ownX.set5 (fun p hp => (h.awX p hp).2.1) _ _ _ _ _).set5 (fun p hp => (h.awX p hp).1) _ _ _ _ _,
    (h.ownY.rd.set5 (fun p hp _ => (h.awY p hp).2.1) _ _ _ _ _).set5 (fun p hp _ => (h.awY p hp).1) _ _ _ _ _, h.awX, fun q hq _ => h.awY q hq, fun p q hp hq _ => (h.apart q p hq hp).symm⟩
  · rw [heap_set5_other _ (by omega)]; exact heap_set5 h1 _ _ _ _ _
  · exact heap_set5 ((heap_set5_other _ (by omega) _ _ _ _ _).trans h2) _ _ _ _ _
  · rw [heap_set5_other _ (by omega), heap_set5_other _ (by omega)]; exact h.hX
  · rw [heap_set5_other _ (by omega), heap_set5_other _ (by omega)]; exact h.hY
end
end Go.Proofs.Ytjiffflhedekfaa
