/- BankMoves, the round: the two answers become the bank. -/
import Derived.Test.YtjiffflhedekfaaBm2
import Derived.RegionTactic
import Derived.BigRegion
namespace Go.Proofs.Ytjiffflhedekfaa
open Go.RowKit

set_option maxRecDepth 100000 in
set_option maxHeartbeats 3200000 in
theorem pieceG {w W : World} {bb bi bx bY : Nat} {X : Bk} {ax aY : Option Addr} {cx cy : Nat} {acc lv e f k : Value} {A : Array Value} {Q : Exit → Act → World → Prop}
    (hR : RelZ w W bb bi bx bY X ax aY cx cy)
    (hF : Fr A acc lv (.pointer (some ⟨bb, 0, none⟩)) (.pointer (some ⟨bi, 0, none⟩)) (.pointer (some ⟨bx, 0, none⟩)) e (.pointer (some ⟨bY, 0, none⟩)) f k)
    (hK : ∀ (A' : Array Value) (W' : World), Fr A' acc lv (.pointer (some ⟨bb, 0, none⟩)) (.pointer (some ⟨bi, 0, none⟩)) (.pointer (some ⟨bx, 0, none⟩)) e (.pointer (some ⟨bY, 0, none⟩)) f k →
      Rel w W' bb bi bx bY X ax aY cx cy → Q .normal ⟨A', []⟩ W') :
    Code.wp Try.prog (bm [true, false, true, true, true, true, true, true, true, true, true, true, true, true, true, false, true, true]) Q ⟨A, []⟩ W := by
  have HK := Lib.hid (fun A' h => hK A' _ h (hR.swap.step ((Below.refl _ _).drew)))
  obtain ⟨v, rfl⟩ := hF.open
  obtain ⟨a0, a1, a2, a3, a4, _⟩ := five hR.hX
  obtain ⟨b0, b1, b2, b3, b4, _⟩ := five hR.hY
  obtain ⟨u0, u1, u2, u3, u4, hi⟩ := hR.hi
  obtain ⟨x0, x1, x2, x3, x4, f0, f1, f2, f3, f4⟩ := five hi
  obtain ⟨t0, t1, t2, t3, t4, hb⟩ := hR.hb
  obtain ⟨y0, y1, y2, y3, y4, g0, g1, g2, g3, g4⟩ := five hb
  obtain ⟨n1, n2, n3, n4, n5, n6⟩ := hR.ne
  have m1 := n1.symm
  have m2 := n2.symm
  have m3 := n3.symm
  have m4 := n4.symm
  have m5 := n5.symm
  generalize X.L.length = L at *
  clear hR hK hF hi hb
  conv => arg 2; whnf
  go_wp2_with fail
  go_region
  refine HK.out _ ?_
  exact ⟨rfl, rfl, rfl, rfl, rfl, rfl, rfl, rfl, rfl, rfl, rfl⟩
end Go.Proofs.Ytjiffflhedekfaa
