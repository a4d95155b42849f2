/- A copy goes on by itself: the copy, the document's journal, the old journal. -/
import Derived.Test.YtkpfnonacebmkaaCz
import Derived.Test.YtkpfnonacebmkaaAs
namespace Go.Proofs.Ytkpfnonacebmkaa
open Go.RowKit

structure TrG (W : World) (M F F2 Mo Fo : Nat → Prop) (rc rk ro : Nat) (J : JS) (K : KS) (O : JS) (w : World) : Prop where
  p : PrH W M F F2 rc rk J K w
  o : Jn w Mo Fo ro O
  lo : ∀ k, Mo k → W.heap.size ≤ k
  ap : ∀ k, Mo k → ¬ F k ∧ ¬ F2 k
def Tr (W : World) (rc rk ro : Nat) (J : JS) (K : KS) (O : JS) (w : World) : Prop := ∃ M F F2 Mo Fo, TrG W M F F2 Mo Fo rc rk ro J K O w
section
variable {W w w' : World} {rc rk ro : Nat} {J O O' : JS} {K : KS}
theorem Tr.ps (h : Tr W rc rk ro J K O w) : Ps W rc rk J K w := by
  obtain ⟨M, F, F2, Mo, Fo, h⟩ := h
  exact ⟨M, F, F2, h.p⟩
theorem Tr.act {M F F2 Mo Fo : Nat → Prop} (h : TrG W M F F2 Mo Fo rc rk ro J K O w) (hj : Jst w Mo Fo ro w' O') : Tr W rc rk ro J K O' w' := by
  obtain ⟨Mo', Fo', hn, hs⟩ := hj
  have f1 := h.p.j.flr
  have f2 := h.p.k.fl
  refine ⟨M, F, F2, Mo', Fo', ⟨h.p.j.kept hs.size fun b hb => hs.block b (f1 b hb) (fun hm => (h.ap b hm).1 hb), h.p.k.kept hs.size fun b hb => hs.block b (f2 b hb) (fun hm => (h.ap b hm).2 hb), h.p.lo1, h.p.lo2, h.p.b.trans (hs.below h.p.b.size h.lo), h.p.ap⟩, hn, fun k hk => ?_, fun k hk => ?_⟩
  · rcases hs.mm k hk with h1 | h1
    · exact h.lo k h1
    · exact Nat.le_trans h.p.b.size h1
  · rcases hs.mm k hk with h1 | h1
    · exact h.ap k h1
    · exact ⟨fun hf => by have := f1 k hf; omega, fun hf => by have := f2 k hf; omega⟩
/-- The journal is copied. -/
theorem Pr.copy {rj : Nat} (h : Pr W rj rk J K w) : Calls Try.prog 35 #[.pointer (some ⟨rj, 0, none⟩)] w fun e w' => ∃ rc, e = .returned (.pointer (some ⟨rc, 0, none⟩)) ∧ Tr W rc rk rj J K J w' := by
  obtain ⟨M, F, F2, h⟩ := h
  refine (copyj_any h.j).mono ?_
  rintro e w' ⟨rc, rfl, M', F', hn, hm, hf, hb⟩
  have f1 := h.j.flr
  have f2 := h.k.fl
  refine ⟨rc, rfl, M', F', F2, M, F, ⟨hn, h.k.below hb, fun k hk => ?_, h.lo2, h.b.trans (hb.mono h.b.size), fun k hk hk2 => ?_⟩, h.j.below hb, fun k hk => h.lo1 k (h.j.mf k hk), fun k hk => ⟨fun hf' => ?_, fun h2 => h.ap k (h.j.mf k hk) h2⟩⟩
  · rcases hf k hk with h1 | h1
    · exact h.lo1 k h1.1
    · exact Nat.le_trans h.b.size h1
  · rcases hf k hk with h1 | h1
    · exact h.ap k h1.1 hk2
    · have := f2 k hk2; omega
  · rcases hf k hf' with h1 | h1
    · exact h1.2 hk
    · have := f1 k (h.j.mf k hk); omega
theorem Tr.set (h : Tr W rc rk ro J K O w) (i : Int) {n : Int} (hn : W64 n) : Calls Try.prog 28 #[.pointer (some ⟨ro, 0, none⟩), .int .i64 i, .int .u64 n] w fun e w' => e = .returned (.int .i64 (O.set i n).2) ∧ Tr W rc rk ro J K (O.set i n).1 w' := by
  obtain ⟨M, F, F2, Mo, Fo, h⟩ := h
  exact (set_any h.o i hn).mono fun e w' ⟨h1, h2⟩ => ⟨h1, Tr.act h h2⟩
theorem Tr.back (h : Tr W rc rk ro J K O w) (d : Int) : Calls Try.prog 18 #[.pointer (some ⟨ro, 0, none⟩), .int .i64 d] w fun e w' => e = .returned (.int .i64 (O.back d).2) ∧ Tr W rc rk ro J K (O.back d).1 w' := by
  obtain ⟨M, F, F2, Mo, Fo, h⟩ := h
  exact (back_all h.o d).mono fun e w' ⟨h1, h2⟩ => ⟨h1, Tr.act h h2⟩
theorem Tr.begin (h : Tr W rc rk ro J K O w) : Calls Try.prog 13 #[.pointer (some ⟨ro, 0, none⟩)] w fun e w' => e = .returned (.tuple #[.int .i64 O.begin.2.1, .int .i64 O.begin.2.2]) ∧ Tr W rc rk ro J K O.begin.1 w' := by
  obtain ⟨M, F, F2, Mo, Fo, h⟩ := h
  exact (begin_any h.o).mono fun e w' ⟨h1, h2⟩ => ⟨h1, Tr.act h h2⟩
theorem Ps.asks {rj : Nat} (h : Ps W rj rk J K w) (kind i k : Int) {n : Int} (hn : W64 n) (ht : K.tot + 1 ≤ 1000000) : Calls Try.prog 36 #[.pointer (some ⟨rk, 0, none⟩), .agg #[.int .i64 kind, .int .i64 i, .int .i64 k, .int .u64 n]] w fun e w' => e = .returned (.int .i64 (K.does kind i k n).2) ∧ Ps W rj rk J (K.does kind i k n).1 w' := by
  obtain ⟨M, F1, F2, h⟩ := h
  exact (asks_any h.k kind i k hn ht).mono fun e w' ⟨h1, h2⟩ => ⟨h1, Ps.actk h h2⟩
end
end Go.Proofs.Ytkpfnonacebmkaa
