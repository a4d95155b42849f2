/- BankMoves: the loop's test, the counter, and the acts as cells. -/
import Derived.Test.YtjiffflhedekfaaBm0
namespace Go.Proofs.Ytjiffflhedekfaa
open Go.RowKit

set_option maxRecDepth 100000 in
set_option maxHeartbeats 1600000 in
theorem pieceT {W : World} {acc p3 p7 p8 p10 e f : Value} {la : Option Addr} {n lc k : Nat} {A : Array Value} {Q : Exit → Act → World → Prop} {rest : Code}
    (hk : k ≤ n) (hn : n ≤ 30)
    (hF : Fr A acc (.slice la n lc) p3 p7 p8 e p10 f (.int .i64 k))
    (hK : ∀ (A' : Array Value), Fr A' acc (.slice la n lc) p3 p7 p8 e p10 f (.int .i64 k) → Code.wp Try.prog rest Q ⟨A', []⟩ W) :
    Code.wp Try.prog (.seq (bm [false]) rest) Q ⟨A, []⟩ W := by
  have HK := Lib.hid hK
  obtain ⟨v, rfl⟩ := hF.open
  clear hK hF
  conv => arg 2; arg 1; whnf
  go_wp2_with fail
  refine HK.out _ ?_
  exact ⟨rfl, rfl, rfl, rfl, rfl, rfl, rfl, rfl, rfl, rfl, rfl⟩

set_option maxRecDepth 100000 in
set_option maxHeartbeats 1600000 in
theorem pieceR {W : World} {acc p3 p7 p8 p10 e f : Value} {la : Option Addr} {n lc k : Nat} {A : Array Value} {Q : Exit → Act → World → Prop}
    (hk : k < n) (hn : n ≤ 30)
    (hF : Fr A acc (.slice la n lc) p3 p7 p8 e p10 f (.int .i64 k))
    (hK : ∀ (A' : Array Value), Fr A' acc (.slice la n lc) p3 p7 p8 e p10 f (.int .i64 (k + 1 : Nat)) → Q .normal ⟨A', []⟩ W) :
    Code.wp Try.prog (bm [true, true]) Q ⟨A, []⟩ W := by
  have HK := Lib.hid hK
  obtain ⟨v, rfl⟩ := hF.open
  clear hK hF
  conv => arg 2; whnf
  go_wp2_with fail
  refine HK.out _ ?_
  exact ⟨rfl, rfl, rfl, rfl, rfl, rfl, rfl, rfl, rfl, rfl, by go_num⟩

/-- An act: what, from, to, the amount. -/
structure Ac where
  what : Int
  from_ : Int
  to_ : Int
  amt : Int
/-- The acts lie there, as cells. -/
def ActsAt (w : World) (la : Option Addr) (l : List Ac) : Prop :=
  ∀ k, ∀ x, l[k]? = some x → ∃ lb lo, la = some ⟨lb, lo, none⟩ ∧ lb < w.heap.size ∧ W64 x.amt ∧ w.cell? ⟨lb, lo + k * 4, none⟩ = some (.int .i64 x.what) ∧
    w.cell? ⟨lb, lo + k * 4 + 1, none⟩ = some (.int .i64 x.from_) ∧ w.cell? ⟨lb, lo + k * 4 + 2, none⟩ = some (.int .i64 x.to_) ∧ w.cell? ⟨lb, lo + k * 4 + 3, none⟩ = some (.int .u64 x.amt)

theorem code_round : bm [] = .seq (bm [false]) (.seq (bm [true, false]) (bm [true, true])) := by kernel_rfl
theorem code_block : bm [true, false] = .block 1 (.seq (bm [true, false, true, false]) (.seq (bm [true, false, true, true, false]) (.seq (bm [true, false, true, true, true, false]) (.seq (bm [true, false, true, true, true, true, false])
    (.seq (bm [true, false, true, true, true, true, true, false]) (.seq (bm [true, false, true, true, true, true, true, true, false]) (.seq (bm [true, false, true, true, true, true, true, true, true, false])
    (.seq (bm [true, false, true, true, true, true, true, true, true, true, false]) (.seq (bm [true, false, true, true, true, true, true, true, true, true, true, false]) (.seq (bm [true, false, true, true, true, true, true, true, true, true, true, true, false])
    (.seq (bm [true, false, true, true, true, true, true, true, true, true, true, true, true, false]) (bm [true, false, true, true, true, true, true, true, true, true, true, true, true, true])))))))))))) := by kernel_rfl
end Go.Proofs.Ytjiffflhedekfaa
