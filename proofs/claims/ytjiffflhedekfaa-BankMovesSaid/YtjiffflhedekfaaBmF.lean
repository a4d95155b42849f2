/- BankMoves, the round: a move that is carried out: the test, the old accounts written over. -/
import Derived.Test.YtjiffflhedekfaaBm2
namespace Go.Proofs.Ytjiffflhedekfaa
open Go.RowKit

theorem code_F : bm [true, false, true, true, true, true, true, true, true, true, true, true, true, true] = .seq (bm [true, false, true, true, true, true, true, true, true, true, true, true, true, true, false])
    (.cond (.tmp 194) (.seq (bm [true, false, true, true, true, true, true, true, true, true, true, true, true, true, true, false, false]) (.seq (bm [true, false, true, true, true, true, true, true, true, true, true, true, true, true, true, false, true, false])
      (bm [true, false, true, true, true, true, true, true, true, true, true, true, true, true, true, false, true, true]))) .skip) := by kernel_rfl

set_option maxRecDepth 100000 in
set_option maxHeartbeats 3200000 in
theorem pieceF0 {W : World} {acc p3 p7 p8 p10 : Value} {what : Int} {lb lo n lc k : Nat} {A : Array Value} {Q : Exit → Act → World → Prop} {rest : Code} (hk : k < n) (hn : n ≤ 30) (h0 : W.cell? ⟨lb, lo + k * 4, none⟩ = some (.int .i64 what)) (he : 0 ≤ what ∧ what ≤ 4)
    (hF : Fr A acc (.slice (some ⟨lb, lo, none⟩) n lc) p3 p7 p8 (.int .i64 0) p10 (.int .i64 0) (.int .i64 k))
    (hK : ∀ (A' : Array Value), Fr A' acc (.slice (some ⟨lb, lo, none⟩) n lc) p3 p7 p8 (.int .i64 0) p10 (.int .i64 0) (.int .i64 k) → A'[194]? = some (.bool true) → Code.wp Try.prog rest Q ⟨A', []⟩ W) :
    Code.wp Try.prog (.seq (bm [true, false, true, true, true, true, true, true, true, true, true, true, true, true, false]) rest) Q ⟨A, []⟩ W := by
  have HK := Lib.hid hK
  obtain ⟨v, rfl⟩ := hF.open
  have hd : decide ((0 : Int) ≤ what) = true := by simp; omega
  have hd4 : decide (what ≤ 4) = true := by simp; omega
  clear hK hF he
  conv => arg 2; arg 1; whnf
  go_wp2_with fail
  refine HK.out _ ?_ rfl
  exact ⟨rfl, rfl, rfl, rfl, rfl, rfl, rfl, rfl, rfl, rfl, rfl⟩

set_option maxRecDepth 100000 in
set_option maxHeartbeats 3200000 in
theorem pieceF1 {w W : World} {bb bi bx bY : Nat} {B X : Bk} {ai ab ax aY : Option Addr} {ci cb cx cy : Nat} {acc lv e f k : Value} {A : Array Value} {Q : Exit → Act → World → Prop} {rest : Code}
    (hR : RelXY w W bb bi bx bY B ai ab ci cb X ax aY cx cy) (nB : B.L.length ≤ 9223372036854775807)
    (hF : Fr A acc lv (.pointer (some ⟨bb, 0, none⟩)) (.pointer (some ⟨bi, 0, none⟩)) (.pointer (some ⟨bx, 0, none⟩)) e (.pointer (some ⟨bY, 0, none⟩)) f k)
    (hK : ∀ (A' : Array Value) (W' : World), Fr A' acc lv (.pointer (some ⟨bb, 0, none⟩)) (.pointer (some ⟨bi, 0, none⟩)) (.pointer (some ⟨bx, 0, none⟩)) e (.pointer (some ⟨bY, 0, none⟩)) f k →
      RelZ w W' bb bi bx bY X ax aY cx cy → Code.wp Try.prog rest Q ⟨A', []⟩ W') :
    Code.wp Try.prog (.seq (bm [true, false, true, true, true, true, true, true, true, true, true, true, true, true, true, false, false]) rest) Q ⟨A, []⟩ W := by
  have C1 := Lib.hid ((overW_any hR.relx.rel.own nB).mono (fun _ W' hp => And.intro hp.1 (hR.over hp.2)))
  have HK := Lib.hid hK
  obtain ⟨v, rfl⟩ := hF.open
  obtain ⟨a0, _⟩ := five hR.relx.rel.hi
  clear hK hF hR nB
  conv => arg 2; arg 1; whnf
  go_wp2_with fail
  refine C1.out.mono ?_
  clear a0
  rintro e' w1 ⟨rfl, hR⟩
  have HR := Lib.hid hR
  clear hR C1
  go_wp2_with fail
  refine HK.out _ _ ?_ HR.out
  exact ⟨rfl, rfl, rfl, rfl, rfl, rfl, rfl, rfl, rfl, rfl, rfl⟩

set_option maxRecDepth 100000 in
set_option maxHeartbeats 3200000 in
theorem pieceF2 {w W : World} {bb bi bx bY : Nat} {X : Bk} {ax aY : Option Addr} {cx cy : Nat} {acc lv e f k : Value} {A : Array Value} {Q : Exit → Act → World → Prop} {rest : Code}
    (hR : RelZ w W bb bi bx bY X ax aY cx cy) (nX : X.L.length ≤ 9223372036854775807)
    (hF : Fr A acc lv (.pointer (some ⟨bb, 0, none⟩)) (.pointer (some ⟨bi, 0, none⟩)) (.pointer (some ⟨bx, 0, none⟩)) e (.pointer (some ⟨bY, 0, none⟩)) f k)
    (hK : ∀ (A' : Array Value) (W' : World), Fr A' acc lv (.pointer (some ⟨bb, 0, none⟩)) (.pointer (some ⟨bi, 0, none⟩)) (.pointer (some ⟨bx, 0, none⟩)) e (.pointer (some ⟨bY, 0, none⟩)) f k →
      RelZ w W' bb bi bx bY X ax aY cx cy → Code.wp Try.prog rest Q ⟨A', []⟩ W') :
    Code.wp Try.prog (.seq (bm [true, false, true, true, true, true, true, true, true, true, true, true, true, true, true, false, true, false]) rest) Q ⟨A, []⟩ W := by
  have C2 := Lib.hid (fun c d W (h : RelZ w W bb bi bx bY X ax aY cx cy) => (sameBank_any ax aY X X c d W h.ownX.rd h.ownY.rd nX nX).mono (fun _ W' hp => And.intro hp.1 (h.step hp.2)))
  rw [show decide (X = X) = true by simp] at C2
  have HK := Lib.hid hK
  obtain ⟨v, rfl⟩ := hF.open
  obtain ⟨a0, a1, a2, a3, a4, _⟩ := five hR.hX
  obtain ⟨b0, b1, b2, b3, b4, _⟩ := five hR.hY
  have HR := Lib.hid hR
  clear hK hF hR nX
  conv => arg 2; arg 1; whnf
  go_wp2_with fail
  refine (C2.out _ _ _ HR.out).mono ?_
  clear a0 a1 a2 a3 a4 b0 b1 b2 b3 b4
  rintro e' w2 ⟨rfl, hR⟩
  have HR := Lib.hid hR
  clear hR C2
  go_wp2_with fail
  refine HK.out _ _ ?_ HR.out
  exact ⟨rfl, rfl, rfl, rfl, rfl, rfl, rfl, rfl, rfl, rfl, rfl⟩
end Go.Proofs.Ytjiffflhedekfaa
