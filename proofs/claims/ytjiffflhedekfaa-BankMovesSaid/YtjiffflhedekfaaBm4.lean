/- BankMoves: one round of the loop, out of its pieces. -/
import Derived.Test.YtjiffflhedekfaaBm3
import Derived.Test.YtjiffflhedekfaaBmp
import Derived.Test.YtjiffflhedekfaaBmA
import Derived.Test.YtjiffflhedekfaaBmB
import Derived.Test.YtjiffflhedekfaaBmC
import Derived.Test.YtjiffflhedekfaaBmD
import Derived.Test.YtjiffflhedekfaaBmE
import Derived.Test.YtjiffflhedekfaaBmF
import Derived.Test.YtjiffflhedekfaaBmG
namespace Go.Proofs.Ytjiffflhedekfaa
open Go.RowKit

abbrev ptr (b : Nat) : Value := .pointer (some ⟨b, 0, none⟩)

/-- How the loop stands at its head. -/
structure At (w : World) (acc : Int) (la : Option Addr) (n lc bb bi bx bY k : Nat) (A : Array Value) (W : World) (B : Bk) (ai ab : Option Addr) (ci cb : Nat) : Prop where
  fr : ∃ e f, Fr A (.int .i64 acc) (.slice la n lc) (ptr bb) (ptr bi) (ptr bx) e (ptr bY) f (.int .i64 k)
  rel : Rel w W bb bi bx bY B ai ab ci cb
  wf : B.Wf
  le : B.L.length ≤ 70

theorem round {w W : World} {acc : Int} {la : Option Addr} {n lc bb bi bx bY k : Nat} {A : Array Value} {B : Bk} {ai ab : Option Addr} {ci cb : Nat} {l : List Ac} {Q : Exit → Act → World → Prop}
    (hl : l.length = n) (hn : n ≤ 30) (hA : ActsAt w la l) (hk : k ≤ n) (h : At w acc la n lc bb bi bx bY k A W B ai ab ci cb)
    (hN : k < n → ∀ A' W' B' ai' ab' ci' cb', At w acc la n lc bb bi bx bY (k + 1) A' W' B' ai' ab' ci' cb' → Q .normal ⟨A', []⟩ W')
    (hE : ∀ A' W' B' ai' ab' ci' cb', At w acc la n lc bb bi bx bY k A' W' B' ai' ab' ci' cb' → Q (.exit 0) ⟨A', []⟩ W') :
    Code.wp Try.prog (bm []) Q ⟨A, []⟩ W := by
  obtain ⟨⟨e, f, hF⟩, hR, hw, hle⟩ := h
  have nB : B.L.length ≤ 9223372036854775807 := by omega
  rw [code_round]
  refine pieceT hk hn hF fun A1 hF => ?_
  refine wp_seq ?_
  rw [code_block]
  refine wp_block ?_
  refine pieceA hR hw nB hF fun A2 W2 s er t et u eu hF hS hR => ?_
  refine pieceB hR hw nB hF hS fun A3 W3 hF hR => ?_
  rcases Nat.lt_or_ge k n with hlt | hge
  · refine pieceC_on hlt hn hF fun A4 hF => ?_
    obtain ⟨lb, lo, rfl, hlb, hm, c0, c1, c2, c3⟩ := hA k _ (List.getElem?_eq_getElem (by omega))
    generalize l[k]'(by omega) = x at *
    obtain ⟨what, from_, to_, amt⟩ := x
    dsimp only at *
    have hd := doesR_ok (k := what) (f := from_) (t := to_) hw hm
    cases hX : doesR B what from_ to_ amt with
    | mk X er =>
      rw [hX] at hd
      refine pieceD1 hR hw nB hm hlt hn hlb c0 c1 c2 c3 hX hF fun A5 W5 ax cx hF hR => ?_
      refine pieceD2 hR hw nB hm hlt hn hlb c0 c1 c2 c3 hX hF fun A6 W6 aY cy hF hR => ?_
      have nX : X.L.length ≤ 70 := by have := doesR_le (k := what) (f := from_) (t := to_) (n := amt) hle; rw [hX] at this; exact this
      refine pieceE hR nB (by omega) hF fun A7 W7 hF hR => ?_
      by_cases he : er = 0
      · subst he
        have hW : W7.cell? ⟨lb, lo + k * 4, none⟩ = some (.int .i64 what) := (hR.relx.rel.below.cell hlb).trans c0
        by_cases hwh : 0 ≤ what ∧ what ≤ 4
        · rw [code_F]
          refine pieceF0 hlt hn hW hwh hF fun A8 hF h194 => ?_
          refine wp_cond_true (by simp [Act.eval, h194]) ?_
          refine pieceF1 hR nB hF fun A9 W9 hF hR => ?_
          refine pieceF2 hR (by omega) hF fun A10 W10 hF hR => ?_
          refine pieceG hR hF fun A11 W11 hF hR => ?_
          refine pieceR hlt hn hF fun A12 hF => ?_
          exact hN hlt _ _ _ _ _ _ _ ⟨⟨_, _, hF⟩, hR, (hd hwh rfl).1, nX⟩
        · refine pieceF_none hlt hn hW (by omega) hF fun A8 hF => ?_
          refine pieceR hlt hn hF fun A12 hF => ?_
          exact hN hlt _ _ _ _ _ _ _ ⟨⟨_, _, hF⟩, hR.relx.rel, hw, hle⟩
      · refine pieceF_err he hF fun A8 hF => ?_
        refine pieceR hlt hn hF fun A12 hF => ?_
        exact hN hlt _ _ _ _ _ _ _ ⟨⟨_, _, hF⟩, hR.relx.rel, hw, hle⟩
  · obtain rfl : k = n := by omega
    refine pieceC_off hn hF fun A4 hF => ?_
    exact hE _ _ _ _ _ _ _ ⟨⟨_, _, hF⟩, hR, hw, hle⟩
end Go.Proofs.Ytjiffflhedekfaa
