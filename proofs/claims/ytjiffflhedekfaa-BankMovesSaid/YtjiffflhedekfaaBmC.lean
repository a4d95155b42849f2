/- BankMoves, the round: is it the last round? -/
import Derived.Test.YtjiffflhedekfaaBm0
namespace Go.Proofs.Ytjiffflhedekfaa
open Go.RowKit

set_option maxRecDepth 100000 in
set_option maxHeartbeats 1600000 in
theorem pieceC_on {W : World} {acc p3 p7 p8 p10 e f : Value} {la : Option Addr} {n lc k : Nat} {A : Array Value} {Q : Exit → Act → World → Prop} {rest : Code}
    (hk : k < n) (hn : n ≤ 30)
    (hF : Fr A acc (.slice la n lc) p3 p7 p8 e p10 f (.int .i64 k))
    (hK : ∀ (A' : Array Value), Fr A' acc (.slice la n lc) p3 p7 p8 e p10 f (.int .i64 k) → Code.wp Try.prog rest Q ⟨A', []⟩ W) :
    Code.wp Try.prog (.seq (bm [true, false, true, true, true, true, true, true, true, true, false]) rest) Q ⟨A, []⟩ W := by
  have HK := Lib.hid hK
  obtain ⟨v, rfl⟩ := hF.open
  clear hK hF
  have hq : ((k : Int) == (n : Int)) = false := by rw [beq_eq_false_iff_ne]; omega
  conv => arg 2; arg 1; whnf
  go_wp2_with fail
  refine HK.out _ ?_
  exact ⟨rfl, rfl, rfl, rfl, rfl, rfl, rfl, rfl, rfl, rfl, rfl⟩

set_option maxRecDepth 100000 in
set_option maxHeartbeats 1600000 in
theorem pieceC_off {W : World} {acc p3 p7 p8 p10 e f : Value} {la : Option Addr} {n lc : Nat} {A : Array Value} {Q : Exit → Act → World → Prop} {rest : Code}
    (hn : n ≤ 30)
    (hF : Fr A acc (.slice la n lc) p3 p7 p8 e p10 f (.int .i64 n))
    (hK : ∀ (A' : Array Value), Fr A' acc (.slice la n lc) p3 p7 p8 e p10 f (.int .i64 n) → Q (.exit 0) ⟨A', []⟩ W) :
    Code.wp Try.prog (.seq (bm [true, false, true, true, true, true, true, true, true, true, false]) rest) Q ⟨A, []⟩ W := by
  have HK := Lib.hid hK
  obtain ⟨v, rfl⟩ := hF.open
  clear hK hF
  conv => arg 2; arg 1; whnf
  go_wp2_with fail
  refine HK.out _ ?_
  exact ⟨rfl, rfl, rfl, rfl, rfl, rfl, rfl, rfl, rfl, rfl, rfl⟩
end Go.Proofs.Ytjiffflhedekfaa
