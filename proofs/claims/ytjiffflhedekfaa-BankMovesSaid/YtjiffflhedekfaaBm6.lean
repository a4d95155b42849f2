/- BankMoves: the whole function. -/
import Derived.Test.YtjiffflhedekfaaBm5
namespace Go.Proofs.Ytjiffflhedekfaa
open Go.RowKit

set_option maxRecDepth 100000 in
set_option maxHeartbeats 3200000 in
/-- Too many accounts, or too many acts: the answer of awake. -/
theorem bankMoves_far (ab : Option Addr) (B : Bk) (cb : Nat) (acc : Int) (la : Option Addr) (n lc : Nat) (w : World) (h : 70 < B.L.length ∨ 30 < n) (nB : B.L.length ≤ 9223372036854775807) (nl : n ≤ 9223372036854775807) :
    Calls Try.prog 3 #[bval ab B cb, .int .i64 acc, .slice la n lc] w fun e w' => e = .returned (.bool true) ∧ Below w.heap.size w w' := by
  have HA := Lib.hid (fun W => awake_any W)
  by_cases hb : 70 < B.L.length
  · go_enter Try.func3, Try.ntmps3
    go_wp2_with fail
    refine (HA.out _).mono ?_
    rintro e w1 ⟨rfl, hb1⟩
    go_wp2_with fail
    go_ret
    exact ⟨rfl, ((Below.refl _ _).alloc (Nat.le_refl _) _).trans (hb1.mono (by simp))⟩
  · have hn : 30 < n := by omega
    clear h
    go_enter Try.func3, Try.ntmps3
    go_wp2_with fail
    refine (HA.out _).mono ?_
    rintro e w1 ⟨rfl, hb1⟩
    go_wp2_with fail
    go_ret
    exact ⟨rfl, ((Below.refl _ _).alloc (Nat.le_refl _) _).trans (hb1.mono (by simp))⟩
end Go.Proofs.Ytjiffflhedekfaa
