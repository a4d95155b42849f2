/- bank.Read: what it tells, and how memory stands in its loops. -/
import Derived.Test.YtjiffflhedekfaaRdn
import Derived.Test.YtjiffflhedekfaaRde
import Derived.Test.YtjiffflhedekfaaPl
namespace Go.Proofs.Ytjiffflhedekfaa
open Go.RowKit

/-- So many numbers, one behind the other. -/
def uN : Nat → RS → List Int × RS
  | 0, S => ([], S)
  | k + 1, S => ((uN k S).1 ++ [(uR (uN k S).2).1], (uR (uN k S).2).2)
def readB (raw : List Int) : Bk × RS :=
  let S1 := (nR ⟨raw, 0, none⟩).2
  let a := uN (nR ⟨raw, 0, none⟩).1.toNat S1
  let p := uN 4 a.2
  (⟨a.1, p.1.getD 0 0, p.1.getD 1 0, p.1.getD 2 0, p.1.getD 3 0⟩, p.2)
/-- What 'Read' tells. -/
def readR (raw : List Int) : Bk × Int × Int :=
  if (endR (readB raw).2).1 ≠ 0 then (B0, endR (readB raw).2) else if (readB raw).1.chk ≠ 0 then (B0, 12, 0) else ((readB raw).1, 0, 0)

/-- A reader's place lies in its bytes. -/
def RS.Ok (S : RS) : Prop := Bs S.L ∧ S.at_ ≤ S.L.length
theorem uR_ok {S : RS} (h : S.Ok) : (uR S).2.Ok ∧ W64 (uR S).1 ∧ (uR S).2.L = S.L := by
  unfold uR
  split
  · exact ⟨h, ⟨by omega, by omega⟩, rfl⟩
  · split
    · exact ⟨h, ⟨by omega, by omega⟩, rfl⟩
    · rename_i h1 h2
      have := numR_ok (h.1.drop S.at_) (Decidable.not_not.1 h2)
      rw [List.length_drop] at this
      have h' := h.2
      exact ⟨⟨h.1, by simp only; omega⟩, ⟨this.2.2.1, this.2.2.2⟩, rfl⟩
theorem nR_ok {S : RS} (h : S.Ok) : (nR S).2.Ok ∧ 0 ≤ (nR S).1 ∧ (nR S).1 ≤ 64 ∧ (nR S).2.L = S.L := by
  unfold nR
  split
  · exact ⟨h, by omega, by omega, rfl⟩
  · split
    · exact ⟨h, by omega, by omega, rfl⟩
    · rename_i h1 h2
      have h2' := Decidable.not_not.1 h2
      have h3 : (numR (S.L.drop S.at_)).2.2 = 0 ∧ 1 ≤ (numR (S.L.drop S.at_)).1 ∧ (numR (S.L.drop S.at_)).1 ≤ 64 := by
        unfold numE at h2'
        by_cases g : (numR (S.L.drop S.at_)).2.2 = 0
        · rw [if_neg (by simp [g])] at h2'
          split at h2'
          · cases h2'
          · exact ⟨g, by omega, by omega⟩
        · rw [if_pos g] at h2'; exact absurd h2' g
      have := numR_ok (h.1.drop S.at_) h3.1
      rw [List.length_drop] at this
      have h' := h.2
      exact ⟨⟨h.1, by simp only; omega⟩, by simp only; omega, h3.2.2, rfl⟩
theorem uN_ok {S : RS} (h : S.Ok) (k : Nat) : (uN k S).2.Ok ∧ Ws (uN k S).1 ∧ (uN k S).1.length = k ∧ (uN k S).2.L = S.L := by
  induction k with
  | zero => exact ⟨h, Ws.nil, rfl, rfl⟩
  | succ k ih =>
    obtain ⟨h1, h2, h3, h4⟩ := ih
    have := uR_ok h1
    refine ⟨this.1, h2.append (Ws.cons this.2.1 Ws.nil), by simp [uN, h3], this.2.2.trans h4⟩

section
variable {W : World} {base r : Nat} {S : RS} {ao : Option Addr} {c : Nat} {fp : Option Addr}
theorem OwnY.typed (h : OwnY W base ao c S.L) : ∀ p, ao = some p → ∃ cs m, W.heap[p.block]? = some (.cells cs 5 m) := fun p hp => by
  subst hp
  rcases h.2 with ⟨h1, _⟩ | ⟨g, cap', cur, h1, _, h3, _⟩
  · simp at h1
  · simp only [Value.slice.injEq, Option.some.injEq, true_and] at h1
    rw [h1.1]; exact ⟨_, _, h3⟩
theorem OwnW.typed {l : List Int} (h : OwnW W base ao c l) : ∀ p, ao = some p → ∃ cs m, W.heap[p.block]? = some (.cells cs 23 m) := fun p hp => by
  subst hp
  rcases h.2 with ⟨h1, _⟩ | ⟨g, cap', cur, h1, _, h3, _⟩
  · simp at h1
  · simp only [Value.slice.injEq, Option.some.injEq, true_and] at h1
    rw [h1.1]; exact ⟨_, _, h3⟩
/-- The reader lies on where a block of another type is written. -/
theorem Rdr.grown (h : Rdr W base r S ao c fp) {W' : World} {row : Option Nat} (hg : W.grownBy W' row) (ht : ∀ g, row = some g → ∃ cs t m, W.heap[g]? = some (.cells cs t m) ∧ t ≠ 101 ∧ t ≠ 5 ∧ t ≠ 49) : Rdr W' base r S ao c fp := by
  have keep : ∀ (k : Nat) (cs : Array Value) (t : TypeId) (m : Nat × Nat), W.heap[k]? = some (.cells cs t m) → (t = 101 ∨ t = 5 ∨ t = 49) → W'.heap[k]? = some (.cells cs t m) := fun k cs t m hk h' => by
    refine (hg.block k (Array.getElem?_eq_some_iff.1 hk).1 (fun e => ?_)).trans hk
    obtain ⟨cs', t', m', h1, h2⟩ := ht k e.symm
    rw [hk] at h1
    simp only [Option.some.injEq, Obj.cells.injEq] at h1
    obtain ⟨_, rfl, _⟩ := h1
    rcases h' with rfl | rfl | rfl
    · exact h2.1 rfl
    · exact h2.2.1 rfl
    · exact h2.2.2 rfl
  refine ⟨keep _ _ _ _ h.hr (.inl rfl), ?_, h.ne, h.lo, ?_, h.bs, h.le, h.len⟩
  · exact ⟨h.own.1, h.own.2.imp id fun ⟨g, cap', cur, h1, h2, h3, r⟩ => ⟨g, cap', cur, h1, h2, keep _ _ _ _ h3 (.inr (.inl rfl)), r⟩⟩
  · exact h.fa.imp id fun ⟨e, a, f, h1, h2, h3, h4⟩ => ⟨e, a, f, h1, h2, keep _ _ _ _ h3 (.inr (.inr rfl)), h4⟩
theorem OwnW.grown {l : List Int} (h : OwnW W base ao c l) {W' : World} {row : Option Nat} (hg : W.grownBy W' row) (ht : ∀ g, row = some g → ∃ cs t m, W.heap[g]? = some (.cells cs t m) ∧ t ≠ 23) : OwnW W' base ao c l :=
  ⟨h.1, h.2.imp id fun ⟨g, cap', cur, h1, h2, h3, r⟩ => ⟨g, cap', cur, h1, h2, (hg.block g (lt_of_block h3) (fun e => by
    obtain ⟨cs', t', m', k1, k2⟩ := ht g e.symm
    rw [h3] at k1
    simp only [Option.some.injEq, Obj.cells.injEq] at k1
    exact k2 k1.2.1.symm)).trans h3, r⟩⟩
end

/-- In the loops of Read: the reader, the bank's variable, the accounts. -/
structure RdSit (w W : World) (bk r : Nat) (S : RS) (ao : Option Addr) (c : Nat) (fp la : Option Addr) (cap : Nat) (B : Bk) : Prop where
  below : Below w.heap.size w W
  rdr : Rdr W w.heap.size r S ao c fp
  lo : w.heap.size ≤ bk
  hb : W.heap[bk]? = some (.cells #[.slice la B.L.length cap, .int .u64 B.p0, .int .u64 B.p1, .int .u64 B.p2, .int .u64 B.p3] 26 (0, 0))
  own : OwnW W w.heap.size la cap B.L
section
variable {w W : World} {bk r : Nat} {S : RS} {ao : Option Addr} {c : Nat} {fp la : Option Addr} {cap : Nat} {B : Bk}
theorem RdSit.step (h : RdSit w W bk r S ao c fp la cap B) {W' : World} (hb : Below W.heap.size W W') : RdSit w W' bk r S ao c fp la cap B :=
  ⟨h.below.trans (hb.mono h.below.size), h.rdr.step hb, h.lo, (hb.block _ (lt_of_block h.hb)).trans h.hb, h.own.below hb⟩
theorem ne_of_types {W : World} {a b : Nat} {cs ds : Array Value} {t u : TypeId} {m n : Nat × Nat} (ha : W.heap[a]? = some (.cells cs t m)) (hb : W.heap[b]? = some (.cells ds u n)) (h : t ≠ u) : a ≠ b := fun e => by
  subst e
  rw [ha] at hb
  simp only [Option.some.injEq, Obj.cells.injEq] at hb
  exact h hb.2.1
/-- Behind a call that reads a number. -/
theorem RdSit.read (h : RdSit w W bk r S ao c fp la cap B) {W' : World} {S' : RS} {fp' : Option Addr} (hr : Rdr W' w.heap.size r S' ao c fp') (hg : W.grownBy W' (some r)) : RdSit w W' bk r S' ao c fp' la cap B := by
  have hlr := h.rdr.lo
  refine ⟨h.below.grown hg h.below.size (fun k e => by cases e; exact hlr), hr, h.lo, (hg.block _ (lt_of_block h.hb) (fun e => ne_of_types h.hb h.rdr.hr (by decide) (by cases e; rfl))).trans h.hb, h.own.grown hg (fun g e => by cases e; exact ⟨_, _, _, h.rdr.hr, by decide⟩)⟩
end
end Go.Proofs.Ytjiffflhedekfaa
