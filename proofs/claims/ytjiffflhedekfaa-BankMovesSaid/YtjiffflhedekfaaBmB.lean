/- BankMoves, the round: the test behind the questions. -/
import Derived.Test.YtjiffflhedekfaaBmA
import Derived.Test.YtjiffflhedekfaaReg
namespace Go.Proofs.Ytjiffflhedekfaa
open Go.RowKit

set_option maxRecDepth 100000 in
set_option maxHeartbeats 6400000 in
theorem pieceB {w W : World} {bb bi bx bY : Nat} {B : Bk} {ai ab : Option Addr} {ci cb : Nat} {acc : Int} {lv e f k : Value} {A : Array Value} {Q : Exit → Act → World → Prop} {rest : Code} {s er t et u eu : Int}
    (hR : Rel w W bb bi bx bY B ai ab ci cb) (hw : B.Wf) (nB : B.L.length ≤ 9223372036854775807)
    (hF : Fr A (.int .i64 acc) lv (.pointer (some ⟨bb, 0, none⟩)) (.pointer (some ⟨bi, 0, none⟩)) (.pointer (some ⟨bx, 0, none⟩)) e (.pointer (some ⟨bY, 0, none⟩)) f k)
    (hS : Six A s er t et u eu)
    (hK : ∀ (A' : Array Value) (W' : World), Fr A' (.int .i64 acc) lv (.pointer (some ⟨bb, 0, none⟩)) (.pointer (some ⟨bi, 0, none⟩)) (.pointer (some ⟨bx, 0, none⟩)) e (.pointer (some ⟨bY, 0, none⟩)) f k →
      Rel w W' bb bi bx bY B ai ab ci cb → Code.wp Try.prog rest Q ⟨A', []⟩ W') :
    Code.wp Try.prog (.seq (bm [true, false, true, true, true, true, true, true, true, false]) rest) Q ⟨A, []⟩ W := by
  have C1 := Lib.hid (fun c W (h : Rel w W bb bi bx bY B ai ab ci cb) => (check_any ai B c W h.own.rd hw nB).mono (fun _ W' hp => And.intro hp.1 (h.step hp.2)))
  have C2 := Lib.hid (fun c W (h : Rel w W bb bi bx bY B ai ab ci cb) => (refCheck_any ab B c W h.rd hw nB).mono (fun _ W' hp => And.intro hp.1 (h.step hp.2)))
  have C3 := Lib.hid (fun c d W (h : Rel w W bb bi bx bY B ai ab ci cb) => (sameBank_any ai ab B B c d W h.own.rd h.rd nB nB).mono (fun _ W' hp => And.intro hp.1 (h.step hp.2)))
  rw [show decide (B = B) = true by simp] at C3
  generalize B.chk = ch at *
  have HK := Lib.hid hK
  obtain ⟨v, rfl⟩ := hF.open
  obtain ⟨s13, s14, s15, s16, s17, s18, s19, s20, s21, s22, s23, s24⟩ := hS
  replace s13 : v 13 = .int .u64 s := Option.some.inj s13
  replace s14 : v 14 = .int .i64 er := Option.some.inj s14
  replace s15 : v 15 = .int .u64 s := Option.some.inj s15
  replace s16 : v 16 = .int .i64 er := Option.some.inj s16
  replace s17 : v 17 = .int .u64 t := Option.some.inj s17
  replace s18 : v 18 = .int .i64 et := Option.some.inj s18
  replace s19 : v 19 = .int .u64 t := Option.some.inj s19
  replace s20 : v 20 = .int .i64 et := Option.some.inj s20
  replace s21 : v 21 = .int .u64 u := Option.some.inj s21
  replace s22 : v 22 = .int .i64 eu := Option.some.inj s22
  replace s23 : v 23 = .int .u64 u := Option.some.inj s23
  replace s24 : v 24 = .int .i64 eu := Option.some.inj s24
  rw [s13, s14, s15, s16, s17, s18, s19, s20, s21, s22, s23, s24]
  clear s13 s14 s15 s16 s17 s18 s19 s20 s21 s22 s23 s24
  have HR := Lib.hid hR
  clear hK hF hR hw nB
  conv => arg 2; arg 1; whnf
  go_wp2_with fail
  refine wp_region_tail 40 (fun W' => Rel w W' bb bi bx bY B ai ab ci cb) (by kernel_rfl) (by kernel_rfl) (HR.out.step (Below.refl _ _).drew) ?_
  simp only [List.take_succ_cons, List.take_zero, List.drop_succ_cons, List.drop_zero]
  refine wpQuiet_step (fun K hK => ?_)
  go_simp
  apply Exists.intro
  refine ⟨fun w' hw' => ?_, hK _ ?_⟩
  · obtain ⟨k0, k1, k2, k3, k4, _⟩ := five hw'.hi
    go_simp
    rfl
  clear hK K
  refine wpQuiet_step (fun K hK => ?_)
  go_simp
  apply Exists.intro
  refine ⟨fun w' hw' => ?_, hK _ ?_⟩
  · exact C1.out _ _ hw'
  clear hK K
  refine wpQuiet_step (fun K hK => ?_)
  go_simp
  apply Exists.intro
  refine ⟨fun w' hw' => ?_, hK _ ?_⟩
  · obtain ⟨k0, k1, k2, k3, k4, _⟩ := five hw'.hb
    go_simp
    rfl
  clear hK K
  refine wpQuiet_step (fun K hK => ?_)
  go_simp
  apply Exists.intro
  refine ⟨fun w' hw' => ?_, hK _ ?_⟩
  · exact C2.out _ _ hw'
  clear hK K
  refine wpQuiet_step (fun K hK => ?_)
  go_simp
  first | refine hK _ ?_ | (apply Exists.intro; refine ⟨fun _ _ => rfl, hK _ ?_⟩)
  clear hK K
  refine wpQuiet_step (fun K hK => ?_)
  go_simp
  first | refine hK _ ?_ | (apply Exists.intro; refine ⟨fun _ _ => rfl, hK _ ?_⟩)
  clear hK K
  refine wpQuiet_step (fun K hK => ?_)
  go_simp
  first | refine hK _ ?_ | (apply Exists.intro; refine ⟨fun _ _ => rfl, hK _ ?_⟩)
  clear hK K
  refine wpQuiet_step (fun K hK => ?_)
  go_simp
  first | refine hK _ ?_ | (apply Exists.intro; refine ⟨fun _ _ => rfl, hK _ ?_⟩)
  clear hK K
  refine wpQuiet_step (fun K hK => ?_)
  go_simp
  first | refine hK _ ?_ | (apply Exists.intro; refine ⟨fun _ _ => rfl, hK _ ?_⟩)
  clear hK K
  refine wpQuiet_step (fun K hK => ?_)
  go_simp
  first | refine hK _ ?_ | (apply Exists.intro; refine ⟨fun _ _ => rfl, hK _ ?_⟩)
  clear hK K
  refine wpQuiet_step (fun K hK => ?_)
  go_simp
  first | refine hK _ ?_ | (apply Exists.intro; refine ⟨fun _ _ => rfl, hK _ ?_⟩)
  clear hK K
  refine wpQuiet_step (fun K hK => ?_)
  go_simp
  first | refine hK _ ?_ | (apply Exists.intro; refine ⟨fun _ _ => rfl, hK _ ?_⟩)
  clear hK K
  refine wpQuiet_step (fun K hK => ?_)
  go_simp
  first | refine hK _ ?_ | (apply Exists.intro; refine ⟨fun _ _ => rfl, hK _ ?_⟩)
  clear hK K
  refine wpQuiet_step (fun K hK => ?_)
  go_simp
  first | refine hK _ ?_ | (apply Exists.intro; refine ⟨fun _ _ => rfl, hK _ ?_⟩)
  clear hK K
  refine wpQuiet_step (fun K hK => ?_)
  go_simp
  first | refine hK _ ?_ | (apply Exists.intro; refine ⟨fun _ _ => rfl, hK _ ?_⟩)
  clear hK K
  refine wpQuiet_step (fun K hK => ?_)
  go_simp
  first | refine hK _ ?_ | (apply Exists.intro; refine ⟨fun _ _ => rfl, hK _ ?_⟩)
  clear hK K
  refine wpQuiet_step (fun K hK => ?_)
  go_simp
  first | refine hK _ ?_ | (apply Exists.intro; refine ⟨fun _ _ => rfl, hK _ ?_⟩)
  clear hK K
  refine wpQuiet_step (fun K hK => ?_)
  go_simp
  first | refine hK _ ?_ | (apply Exists.intro; refine ⟨fun _ _ => rfl, hK _ ?_⟩)
  clear hK K
  refine wpQuiet_step (fun K hK => ?_)
  go_simp
  first | refine hK _ ?_ | (apply Exists.intro; refine ⟨fun _ _ => rfl, hK _ ?_⟩)
  clear hK K
  refine wpQuiet_step (fun K hK => ?_)
  go_simp
  first | refine hK _ ?_ | (apply Exists.intro; refine ⟨fun _ _ => rfl, hK _ ?_⟩)
  clear hK K
  refine wpQuiet_step (fun K hK => ?_)
  go_simp
  first | refine hK _ ?_ | (apply Exists.intro; refine ⟨fun _ _ => rfl, hK _ ?_⟩)
  clear hK K
  refine wpQuiet_step (fun K hK => ?_)
  go_simp
  first | refine hK _ ?_ | (apply Exists.intro; refine ⟨fun _ _ => rfl, hK _ ?_⟩)
  clear hK K
  refine wpQuiet_step (fun K hK => ?_)
  go_simp
  first | refine hK _ ?_ | (apply Exists.intro; refine ⟨fun _ _ => rfl, hK _ ?_⟩)
  clear hK K
  refine wpQuiet_step (fun K hK => ?_)
  go_simp
  first | refine hK _ ?_ | (apply Exists.intro; refine ⟨fun _ _ => rfl, hK _ ?_⟩)
  clear hK K
  refine wpQuiet_step (fun K hK => ?_)
  go_simp
  first | refine hK _ ?_ | (apply Exists.intro; refine ⟨fun _ _ => rfl, hK _ ?_⟩)
  clear hK K
  refine wpQuiet_step (fun K hK => ?_)
  go_simp
  first | refine hK _ ?_ | (apply Exists.intro; refine ⟨fun _ _ => rfl, hK _ ?_⟩)
  clear hK K
  refine wpQuiet_step (fun K hK => ?_)
  go_simp
  first | refine hK _ ?_ | (apply Exists.intro; refine ⟨fun _ _ => rfl, hK _ ?_⟩)
  clear hK K
  refine wpQuiet_step (fun K hK => ?_)
  go_simp
  first | refine hK _ ?_ | (apply Exists.intro; refine ⟨fun _ _ => rfl, hK _ ?_⟩)
  clear hK K
  refine wpQuiet_step (fun K hK => ?_)
  go_simp
  first | refine hK _ ?_ | (apply Exists.intro; refine ⟨fun _ _ => rfl, hK _ ?_⟩)
  clear hK K
  refine wpQuiet_step (fun K hK => ?_)
  go_simp
  first | refine hK _ ?_ | (apply Exists.intro; refine ⟨fun _ _ => rfl, hK _ ?_⟩)
  clear hK K
  refine wpQuiet_step (fun K hK => ?_)
  go_simp
  first | refine hK _ ?_ | (apply Exists.intro; refine ⟨fun _ _ => rfl, hK _ ?_⟩)
  clear hK K
  refine wpQuiet_step (fun K hK => ?_)
  go_simp
  first | refine hK _ ?_ | (apply Exists.intro; refine ⟨fun _ _ => rfl, hK _ ?_⟩)
  clear hK K
  refine wpQuiet_step (fun K hK => ?_)
  go_simp
  first | refine hK _ ?_ | (apply Exists.intro; refine ⟨fun _ _ => rfl, hK _ ?_⟩)
  clear hK K
  refine wpQuiet_step (fun K hK => ?_)
  go_simp
  first | refine hK _ ?_ | (apply Exists.intro; refine ⟨fun _ _ => rfl, hK _ ?_⟩)
  clear hK K
  refine wpQuiet_step (fun K hK => ?_)
  go_simp
  first | refine hK _ ?_ | (apply Exists.intro; refine ⟨fun _ _ => rfl, hK _ ?_⟩)
  clear hK K
  refine wpQuiet_step (fun K hK => ?_)
  go_simp
  first | refine hK _ ?_ | (apply Exists.intro; refine ⟨fun _ _ => rfl, hK _ ?_⟩)
  clear hK K
  refine wpQuiet_step (fun K hK => ?_)
  go_simp
  apply Exists.intro
  refine ⟨fun w' hw' => ?_, hK _ ?_⟩
  · obtain ⟨k0, k1, k2, k3, k4, _⟩ := five hw'.hi
    go_simp
    rfl
  clear hK K
  refine wpQuiet_step (fun K hK => ?_)
  go_simp
  apply Exists.intro
  refine ⟨fun w' hw' => ?_, hK _ ?_⟩
  · obtain ⟨k0, k1, k2, k3, k4, _⟩ := five hw'.hb
    go_simp
    rfl
  clear hK K
  refine wpQuiet_step (fun K hK => ?_)
  go_simp
  apply Exists.intro
  refine ⟨fun w' hw' => ?_, hK _ ?_⟩
  · exact C3.out _ _ _ hw'
  clear hK K
  refine wpQuiet_step (fun K hK => ?_)
  go_simp
  first | refine hK _ ?_ | (apply Exists.intro; refine ⟨fun _ _ => rfl, hK _ ?_⟩)
  clear hK K
  refine wpQuiet_nil ?_
  intro w1 hR1
  go_wp2_with fail
  refine HK.out _ _ ?_ hR1
  exact ⟨rfl, rfl, rfl, rfl, rfl, rfl, rfl, rfl, rfl, rfl, rfl⟩
end Go.Proofs.Ytjiffflhedekfaa
