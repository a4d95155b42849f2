/- A journal of the call's own beside the document's journal. -/
import Derived.Test.YtkpfnonacebmkaaKv
import Derived.Test.YtkpfnonacebmkaaKz
namespace Go.Proofs.Ytkpfnonacebmkaa
open Go.RowKit

theorem Jn.flr {w : World} {M F : Nat → Prop} {r : Nat} {J : JS} (h : Jn w M F r J) : ∀ b, F b → b < w.heap.size := by obtain ⟨_, _, _, _, _, h⟩ := h; exact h.fl
structure PrG (W : World) (M F1 F2 : Nat → Prop) (rj rk : Nat) (J : JS) (K : KS) (w : World) : Prop where
  j : Jn w M F1 rj J
  k : Kn w F2 rk K
  lo1 : ∀ b, F1 b → W.heap.size ≤ b
  lo2 : ∀ b, F2 b → W.heap.size ≤ b
  b : Below W.heap.size W w
  ap : ∀ b, F1 b → ¬ F2 b
  jk : JK J K
/-- Both stand alike in w; W: the world ahead of the call. -/
def Pr (W : World) (rj rk : Nat) (J : JS) (K : KS) (w : World) : Prop := ∃ M F1 F2, PrG W M F1 F2 rj rk J K w
section
variable {W w w' : World} {rj rk : Nat} {J J' : JS} {K K' : KS}
theorem Pr.below (h : Pr W rj rk J K w) (hb : Below w.heap.size w w') : Pr W rj rk J K w' := by
  obtain ⟨M, F1, F2, h⟩ := h
  exact ⟨M, F1, F2, h.j.below hb, h.k.below hb, h.lo1, h.lo2, h.b.trans (hb.mono h.b.size), h.ap, h.jk⟩
theorem Pr.base (h : Pr W rj rk J K w) : Below W.heap.size W w := by obtain ⟨M, F1, F2, h⟩ := h; exact h.b
theorem Pr.jk (h : Pr W rj rk J K w) : JK J K := by obtain ⟨M, F1, F2, h⟩ := h; exact h.jk
theorem Pr.jn (h : Pr W rj rk J K w) : ∃ M F, Jn w M F rj J := by obtain ⟨M, F1, F2, h⟩ := h; exact ⟨_, _, h.j⟩
theorem Pr.kn (h : Pr W rj rk J K w) : ∃ F, Kn w F rk K := by obtain ⟨M, F1, F2, h⟩ := h; exact ⟨_, h.k⟩
/-- Behind an act of both, the journal first. -/
structure PrH (W : World) (M F1 F2 : Nat → Prop) (rj rk : Nat) (J : JS) (K : KS) (w : World) : Prop where
  j : Jn w M F1 rj J
  k : Kn w F2 rk K
  lo1 : ∀ b, F1 b → W.heap.size ≤ b
  lo2 : ∀ b, F2 b → W.heap.size ≤ b
  b : Below W.heap.size W w
  ap : ∀ b, F1 b → ¬ F2 b
def Ps (W : World) (rj rk : Nat) (J : JS) (K : KS) (w : World) : Prop := ∃ M F1 F2, PrH W M F1 F2 rj rk J K w
theorem Pr.ps (h : Pr W rj rk J K w) : Ps W rj rk J K w := by
  obtain ⟨M, F1, F2, h⟩ := h
  exact ⟨M, F1, F2, h.j, h.k, h.lo1, h.lo2, h.b, h.ap⟩
theorem Ps.pr (h : Ps W rj rk J K w) (hjk : JK J K) : Pr W rj rk J K w := by
  obtain ⟨M, F1, F2, h⟩ := h
  exact ⟨M, F1, F2, h.j, h.k, h.lo1, h.lo2, h.b, h.ap, hjk⟩
theorem Ps.below (h : Ps W rj rk J K w) (hb : Below w.heap.size w w') : Ps W rj rk J K w' := by
  obtain ⟨M, F1, F2, h⟩ := h
  exact ⟨M, F1, F2, h.j.below hb, h.k.below hb, h.lo1, h.lo2, h.b.trans (hb.mono h.b.size), h.ap⟩
theorem Ps.base (h : Ps W rj rk J K w) : Below W.heap.size W w := by obtain ⟨M, F1, F2, h⟩ := h; exact h.b
/-- An act of the journal. -/
theorem Ps.actj {M F1 F2 : Nat → Prop} (h : PrH W M F1 F2 rj rk J K w) (hj : Jst w M F1 rj w' J') : Ps W rj rk J' K w' := by
  obtain ⟨M', F1', hn, hs⟩ := hj
  have hl2 := h.k.fl
  have km : ∀ b, b < w.heap.size → ¬ F1 b → w'.heap[b]? = w.heap[b]? := fun b hb hf => hs.block b hb fun hm => hf (h.j.mf b hm)
  refine ⟨M', F1', F2, hn, h.k.kept hs.size fun b hb => km b (hl2 b hb) (fun hf => h.ap b hf hb), fun b hb => ?_, h.lo2, h.b.trans (hs.below h.b.size fun b hm => h.lo1 b (h.j.mf b hm)), fun b hb hb2 => ?_⟩
  · rcases hs.ff b hb with h1 | h1
    · exact h.lo1 b h1
    · exact Nat.le_trans h.b.size h1
  · rcases hs.ff b hb with h1 | h1
    · exact h.ap b h1 hb2
    · have := hl2 b hb2; omega
/-- An act of the document's journal. -/
theorem Ps.actk {M F1 F2 : Nat → Prop} (h : PrH W M F1 F2 rj rk J K w) (hk : Kst w F2 rk w' K') : Ps W rj rk J K' w' := by
  obtain ⟨F2', hn, hs⟩ := hk
  have hl1 := h.j.flr
  refine ⟨M, F1, F2', h.j.kept hs.size fun b hb => hs.block b (hl1 b hb) (fun hf => h.ap b hb hf), hn, h.lo1, fun b hb => ?_, h.b.trans (hs.below h.b.size h.lo2), fun b hb hb2 => ?_⟩
  · rcases hs.ff b hb with h1 | h1
    · exact h.lo2 b h1
    · exact Nat.le_trans h.b.size h1
  · rcases hs.ff b hb2 with h1 | h1
    · exact h.ap b hb h1
    · have := hl1 b hb; omega
theorem Ps.doesj (h : Ps W rj rk J K w) (kind i k : Int) {n : Int} (hn : W64 n) : Calls Try.prog 31 #[.pointer (some ⟨rj, 0, none⟩), .agg #[.int .i64 kind, .int .i64 i, .int .i64 k, .int .u64 n]] w fun e w' => e = .returned (.int .i64 (J.does kind i k n).2) ∧ Ps W rj rk (J.does kind i k n).1 K w' := by
  obtain ⟨M, F1, F2, h⟩ := h
  exact (does_any h.j kind i k hn).mono fun e w' ⟨h1, h2⟩ => ⟨h1, Ps.actj h h2⟩
theorem Ps.beginj (h : Ps W rj rk J K w) : Calls Try.prog 13 #[.pointer (some ⟨rj, 0, none⟩)] w fun e w' => e = .returned (.tuple #[.int .i64 J.begin.2.1, .int .i64 J.begin.2.2]) ∧ Ps W rj rk J.begin.1 K w' := by
  obtain ⟨M, F1, F2, h⟩ := h
  exact (begin_any h.j).mono fun e w' ⟨h1, h2⟩ => ⟨h1, Ps.actj h h2⟩
theorem Ps.begink (h : Ps W rj rk J K w) : Calls Try.prog 14 #[.pointer (some ⟨rk, 0, none⟩)] w fun e w' => e = .returned (.tuple #[.int .i64 K.begin.2.1, .int .i64 K.begin.2.2]) ∧ Ps W rj rk J K.begin.1 w' := by
  obtain ⟨M, F1, F2, h⟩ := h
  exact (kBegin_any h.k).mono fun e w' ⟨h1, h2⟩ => ⟨h1, Ps.actk h h2⟩
theorem Ps.addj (h : Ps W rj rk J K w) (i : Int) {n : Int} (hn : W64 n) : Calls Try.prog 15 #[.pointer (some ⟨rj, 0, none⟩), .int .i64 i, .int .u64 n] w fun e w' => e = .returned (.int .i64 (J.chg i n addR).2) ∧ Ps W rj rk (J.chg i n addR).1 K w' := by
  obtain ⟨M, F1, F2, h⟩ := h
  exact (jadd_any h.j i hn).mono fun e w' ⟨h1, h2⟩ => ⟨h1, Ps.actj h h2⟩
theorem Ps.addk (h : Ps W rj rk J K w) (i : Int) {n : Int} (hn : W64 n) (ht : K.tot ≤ 1000000) : Calls Try.prog 16 #[.pointer (some ⟨rk, 0, none⟩), .int .i64 i, .int .u64 n] w fun e w' => e = .returned (.int .i64 (K.chg i n addR).2) ∧ Ps W rj rk J (K.chg i n addR).1 w' := by
  obtain ⟨M, F1, F2, h⟩ := h
  exact (kAdd_any h.k i hn ht).mono fun e w' ⟨h1, h2⟩ => ⟨h1, Ps.actk h h2⟩
theorem Ps.backj (h : Ps W rj rk J K w) (d : Int) : Calls Try.prog 18 #[.pointer (some ⟨rj, 0, none⟩), .int .i64 d] w fun e w' => e = .returned (.int .i64 (J.back d).2) ∧ Ps W rj rk (J.back d).1 K w' := by
  obtain ⟨M, F1, F2, h⟩ := h
  exact (back_all h.j d).mono fun e w' ⟨h1, h2⟩ => ⟨h1, Ps.actj h h2⟩
theorem Ps.backk (h : Ps W rj rk J K w) (d : Int) : Calls Try.prog 19 #[.pointer (some ⟨rk, 0, none⟩), .int .i64 d] w fun e w' => e = .returned (.int .i64 (K.back d).2) ∧ Ps W rj rk J (K.back d).1 w' := by
  obtain ⟨M, F1, F2, h⟩ := h
  exact (kBack_any h.k d).mono fun e w' ⟨h1, h2⟩ => ⟨h1, Ps.actk h h2⟩
end

end Go.Proofs.Ytkpfnonacebmkaa
