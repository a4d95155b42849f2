/- BankMoves, the round: the six questions. -/
import Derived.Test.YtjiffflhedekfaaBm0
import Derived.Deep.Cut
namespace Go.Proofs.Ytjiffflhedekfaa
open Go.RowKit
structure Six (A : Array Value) (s er t et u eu : Int) : Prop where
  h13 : A[13]? = some (.int .u64 s)
  h14 : A[14]? = some (.int .i64 er)
  h15 : A[15]? = some (.int .u64 s)
  h16 : A[16]? = some (.int .i64 er)
  h17 : A[17]? = some (.int .u64 t)
  h18 : A[18]? = some (.int .i64 et)
  h19 : A[19]? = some (.int .u64 t)
  h20 : A[20]? = some (.int .i64 et)
  h21 : A[21]? = some (.int .u64 u)
  h22 : A[22]? = some (.int .i64 eu)
  h23 : A[23]? = some (.int .u64 u)
  h24 : A[24]? = some (.int .i64 eu)

set_option maxRecDepth 100000 in
set_option maxHeartbeats 3200000 in
theorem pieceA {w W : World} {bb bi bx bY : Nat} {B : Bk} {ai ab : Option Addr} {ci cb : Nat} {acc : Int} {lv e f k : Value} {A : Array Value} {Q : Exit → Act → World → Prop} {rest : Code}
    (hR : Rel w W bb bi bx bY B ai ab ci cb) (hw : B.Wf) (nB : B.L.length ≤ 9223372036854775807)
    (hF : Fr A (.int .i64 acc) lv (.pointer (some ⟨bb, 0, none⟩)) (.pointer (some ⟨bi, 0, none⟩)) (.pointer (some ⟨bx, 0, none⟩)) e (.pointer (some ⟨bY, 0, none⟩)) f k)
    (hK : ∀ (A' : Array Value) (W' : World) (s er t et u eu : Int), Fr A' (.int .i64 acc) lv (.pointer (some ⟨bb, 0, none⟩)) (.pointer (some ⟨bi, 0, none⟩)) (.pointer (some ⟨bx, 0, none⟩)) e (.pointer (some ⟨bY, 0, none⟩)) f k →
      Six A' s er t et u eu → Rel w W' bb bi bx bY B ai ab ci cb → Code.wp Try.prog rest Q ⟨A', []⟩ W') :
    Code.wp Try.prog (.seq (bm [true, false, true, false]) (.seq (bm [true, false, true, true, false]) (.seq (bm [true, false, true, true, true, false]) (.seq (bm [true, false, true, true, true, true, false]) (.seq (bm [true, false, true, true, true, true, true, false]) (.seq (bm [true, false, true, true, true, true, true, true, false]) rest)))))) Q ⟨A, []⟩ W := by
  have S1 := Lib.hid (fun c W (h : Rel w W bb bi bx bY B ai ab ci cb) => (supply_any ai B c W h.own.rd hw nB).mono (fun _ W' hp => And.intro hp.1 (h.step hp.2)))
  have S2 := Lib.hid (fun c W (h : Rel w W bb bi bx bY B ai ab ci cb) => (refSupply_any ab B c W h.rd hw nB).mono (fun _ W' hp => And.intro hp.1 (h.step hp.2)))
  have S3 := Lib.hid (fun c W (h : Rel w W bb bi bx bY B ai ab ci cb) => (total_any ai B c W h.own.rd hw nB).mono (fun _ W' hp => And.intro hp.1 (h.step hp.2)))
  have S4 := Lib.hid (fun c W (h : Rel w W bb bi bx bY B ai ab ci cb) => (refTotal_any ab B c W h.rd hw nB).mono (fun _ W' hp => And.intro hp.1 (h.step hp.2)))
  have S5 := Lib.hid (fun c W (h : Rel w W bb bi bx bY B ai ab ci cb) => (have_any ai B c acc W h.own.rd hw nB).mono (fun _ W' hp => And.intro hp.1 (h.step hp.2)))
  have S6 := Lib.hid (fun c W (h : Rel w W bb bi bx bY B ai ab ci cb) => (refHave_any ab B c acc W h.rd hw nB).mono (fun _ W' hp => And.intro hp.1 (h.step hp.2)))
  generalize (if B.chk = 0 then B.tot else 0) = s at *
  generalize (if B.chk = 0 then B.L.sum else 0) = t at *
  generalize (haveR B acc).1 = u at *
  generalize (haveR B acc).2 = eu at *
  generalize B.chk = er at *
  have HK := Lib.hid (fun A' W' h1 h2 h3 => hK A' W' s er t er u eu h1 h2 h3)
  obtain ⟨v, rfl⟩ := hF.open
  have HR := Lib.hid hR
  clear hK hF hR hw nB
  conv => arg 2; arg 1; whnf
  conv => arg 2; arg 2; arg 1; whnf
  conv => arg 2; arg 2; arg 2; arg 1; whnf
  conv => arg 2; arg 2; arg 2; arg 2; arg 1; whnf
  conv => arg 2; arg 2; arg 2; arg 2; arg 2; arg 1; whnf
  conv => arg 2; arg 2; arg 2; arg 2; arg 2; arg 2; arg 1; whnf
  obtain ⟨a0, a1, a2, a3, a4, _⟩ := five HR.out.hi
  go_wp2_with fail
  refine (S1.out _ _ HR.out).mono ?_
  clear a0 a1 a2 a3 a4
  rintro e' w1 ⟨rfl, hR⟩
  obtain ⟨a0, a1, a2, a3, a4, _⟩ := five hR.hb
  have HR := Lib.hid hR
  clear hR S1
  go_wp2_with fail
  refine (S2.out _ _ HR.out).mono ?_
  clear a0 a1 a2 a3 a4
  rintro e' w2 ⟨rfl, hR⟩
  obtain ⟨a0, a1, a2, a3, a4, _⟩ := five hR.hi
  have HR := Lib.hid hR
  clear hR S2
  go_wp2_with fail
  refine (S3.out _ _ HR.out).mono ?_
  clear a0 a1 a2 a3 a4
  rintro e' w3 ⟨rfl, hR⟩
  obtain ⟨a0, a1, a2, a3, a4, _⟩ := five hR.hb
  have HR := Lib.hid hR
  clear hR S3
  go_wp2_with fail
  refine (S4.out _ _ HR.out).mono ?_
  clear a0 a1 a2 a3 a4
  rintro e' w4 ⟨rfl, hR⟩
  obtain ⟨a0, a1, a2, a3, a4, _⟩ := five hR.hi
  have HR := Lib.hid hR
  clear hR S4
  go_wp2_with fail
  refine (S5.out _ _ HR.out).mono ?_
  clear a0 a1 a2 a3 a4
  rintro e' w5 ⟨rfl, hR⟩
  obtain ⟨a0, a1, a2, a3, a4, _⟩ := five hR.hb
  have HR := Lib.hid hR
  clear hR S5
  go_wp2_with fail
  refine (S6.out _ _ HR.out).mono ?_
  clear a0 a1 a2 a3 a4
  rintro e' w6 ⟨rfl, hR⟩
  have HR := Lib.hid hR
  clear hR S6
  go_wp2_with fail
  refine HK.out _ _ ?_ ?_ HR.out
  · exact ⟨rfl, rfl, rfl, rfl, rfl, rfl, rfl, rfl, rfl, rfl, rfl⟩
  · exact ⟨rfl, rfl, rfl, rfl, rfl, rfl, rfl, rfl, rfl, rfl, rfl, rfl⟩
end Go.Proofs.Ytjiffflhedekfaa
