/- BankMoves, the round: the answers are compared; a move that is not carried out. -/
import Derived.Test.YtjiffflhedekfaaBm1
namespace Go.Proofs.Ytjiffflhedekfaa
open Go.RowKit

set_option maxRecDepth 100000 in
set_option maxHeartbeats 6400000 in
theorem pieceE {w W : World} {bb bi bx bY : Nat} {B X : Bk} {ai ab ax aY : Option Addr} {ci cb cx cy : Nat} {acc lv k : Value} {er : Int} {A : Array Value} {Q : Exit → Act → World → Prop} {rest : Code}
    (hR : RelXY w W bb bi bx bY B ai ab ci cb X ax aY cx cy) (nB : B.L.length ≤ 9223372036854775807) (nX : X.L.length ≤ 9223372036854775807)
    (hF : Fr A acc lv (.pointer (some ⟨bb, 0, none⟩)) (.pointer (some ⟨bi, 0, none⟩)) (.pointer (some ⟨bx, 0, none⟩)) (.int .i64 er) (.pointer (some ⟨bY, 0, none⟩)) (.int .i64 er) k)
    (hK : ∀ (A' : Array Value) (W' : World), Fr A' acc lv (.pointer (some ⟨bb, 0, none⟩)) (.pointer (some ⟨bi, 0, none⟩)) (.pointer (some ⟨bx, 0, none⟩)) (.int .i64 er) (.pointer (some ⟨bY, 0, none⟩)) (.int .i64 er) k →
      RelXY w W' bb bi bx bY B ai ab ci cb X ax aY cx cy → Code.wp Try.prog rest Q ⟨A', []⟩ W') :
    Code.wp Try.prog (.seq (bm [true, false, true, true, true, true, true, true, true, true, true, true, true, false]) rest) Q ⟨A, []⟩ W := by
  have C1 := Lib.hid (fun c d W (h : RelXY w W bb bi bx bY B ai ab ci cb X ax aY cx cy) => (sameBank_any ax aY X X c d W h.relx.own.rd h.own.rd nX nX).mono (fun _ W' hp => And.intro hp.1 (h.step hp.2)))
  have C2 := Lib.hid (fun c d W (h : RelXY w W bb bi bx bY B ai ab ci cb X ax aY cx cy) => (sameBank_any ai ab B B c d W h.relx.rel.own.rd h.relx.rel.rd nB nB).mono (fun _ W' hp => And.intro hp.1 (h.step hp.2)))
  rw [show decide (X = X) = true by simp] at C1
  rw [show decide (B = B) = true by simp] at C2
  have HK := Lib.hid hK
  obtain ⟨v, rfl⟩ := hF.open
  obtain ⟨a0, a1, a2, a3, a4, _⟩ := five hR.relx.hX
  obtain ⟨b0, b1, b2, b3, b4, _⟩ := five hR.hY
  have HR := Lib.hid hR
  clear hK hF hR nB nX
  conv => arg 2; arg 1; whnf
  go_wp2_with fail
  refine (C1.out _ _ _ HR.out).mono ?_
  clear a0 a1 a2 a3 a4 b0 b1 b2 b3 b4
  rintro e' w1 ⟨rfl, hR⟩
  obtain ⟨a0, a1, a2, a3, a4, _⟩ := five hR.relx.rel.hi
  obtain ⟨b0, b1, b2, b3, b4, _⟩ := five hR.relx.rel.hb
  have HR := Lib.hid hR
  clear hR C1
  go_wp2_with fail
  refine (C2.out _ _ _ HR.out).mono ?_
  clear a0 a1 a2 a3 a4 b0 b1 b2 b3 b4
  rintro e' w2 ⟨rfl, hR⟩
  have HR := Lib.hid hR
  clear hR C2
  go_wp2_with fail
  refine HK.out _ _ ?_ HR.out
  exact ⟨rfl, rfl, rfl, rfl, rfl, rfl, rfl, rfl, rfl, rfl, rfl⟩

set_option maxRecDepth 100000 in
set_option maxHeartbeats 6400000 in
/-- The move is refused. -/
theorem pieceF_err {W : World} {acc lv p3 p7 p8 p10 k : Value} {er : Int} {A : Array Value} {Q : Exit → Act → World → Prop} (he : er ≠ 0)
    (hF : Fr A acc lv p3 p7 p8 (.int .i64 er) p10 (.int .i64 er) k)
    (hK : ∀ (A' : Array Value), Fr A' acc lv p3 p7 p8 (.int .i64 er) p10 (.int .i64 er) k → Q .normal ⟨A', []⟩ W) :
    Code.wp Try.prog (bm [true, false, true, true, true, true, true, true, true, true, true, true, true, true]) Q ⟨A, []⟩ W := by
  have HK := Lib.hid hK
  obtain ⟨v, rfl⟩ := hF.open
  have hq : (er == 0) = false := by rw [beq_eq_false_iff_ne]; exact he
  clear hK hF he
  conv => arg 2; whnf
  go_wp2_with fail
  refine HK.out _ ?_
  exact ⟨rfl, rfl, rfl, rfl, rfl, rfl, rfl, rfl, rfl, rfl, rfl⟩

set_option maxRecDepth 100000 in
set_option maxHeartbeats 6400000 in
/-- It is no move. -/
theorem pieceF_none {W : World} {acc p3 p7 p8 p10 : Value} {what : Int} {lb lo n lc k : Nat} {A : Array Value} {Q : Exit → Act → World → Prop} (hk : k < n) (hn : n ≤ 30) (h0 : W.cell? ⟨lb, lo + k * 4, none⟩ = some (.int .i64 what)) (he : what < 0 ∨ 4 < what)
    (hF : Fr A acc (.slice (some ⟨lb, lo, none⟩) n lc) p3 p7 p8 (.int .i64 0) p10 (.int .i64 0) (.int .i64 k))
    (hK : ∀ (A' : Array Value), Fr A' acc (.slice (some ⟨lb, lo, none⟩) n lc) p3 p7 p8 (.int .i64 0) p10 (.int .i64 0) (.int .i64 k) → Q .normal ⟨A', []⟩ W) :
    Code.wp Try.prog (bm [true, false, true, true, true, true, true, true, true, true, true, true, true, true]) Q ⟨A, []⟩ W := by
  have HK := Lib.hid hK
  obtain ⟨v, rfl⟩ := hF.open
  clear hK hF
  rcases he with he | he
  · have hq : ((0 : Int) ≤ what) = False := by simp; omega
    have HQ := Lib.hid hq
    have hd : decide ((0 : Int) ≤ what) = false := by simp; omega
    clear hq he
    conv => arg 2; whnf
    go_wp2_with fail
    refine HK.out _ ?_
    exact ⟨rfl, rfl, rfl, rfl, rfl, rfl, rfl, rfl, rfl, rfl, rfl⟩
  · have hd : decide ((0 : Int) ≤ what) = true := by simp; omega
    have hd4 : decide (what ≤ 4) = false := by simp; omega
    clear he
    conv => arg 2; whnf
    go_wp2_with fail
    refine HK.out _ ?_
    exact ⟨rfl, rfl, rfl, rfl, rfl, rfl, rfl, rfl, rfl, rfl, rfl⟩
end Go.Proofs.Ytjiffflhedekfaa
