/- journal: Move's deferred func. -/
import Derived.Test.YtkpfnonacebmkaaKe
import Derived.Tactics2
namespace Go.Proofs.Ytkpfnonacebmkaa
open Go.RowKit

/-- What the deferred func holds: the journal, the cell's number, the error, what the cell had. -/
structure MvB (W : World) (jb ib eb wb r i : Nat) (er was : Int) : Prop where
  j : W.heap[jb]? = some (.cells #[.pointer (some ⟨r, 0, none⟩)] 22 (0, 0))
  i : W.heap[ib]? = some (.cells #[.int .i64 i] 3 (0, 0))
  e : W.heap[eb]? = some (.cells #[.int .i64 er] 23 (0, 0))
  w : W.heap[wb]? = some (.cells #[.int .u64 was] 33 (0, 0))
theorem MvB.kept {W W' : World} {jb ib eb wb r i : Nat} {er was : Int} (h : MvB W jb ib eb wb r i er was) (hk : ∀ k, k = jb ∨ k = ib ∨ k = eb ∨ k = wb → W'.heap[k]? = W.heap[k]?) : MvB W' jb ib eb wb r i er was :=
  ⟨(hk jb (by simp)).trans h.j, (hk ib (by simp)).trans h.i, (hk eb (by simp)).trans h.e, (hk wb (by simp)).trans h.w⟩

section
variable {W : World} {M F : Nat → Prop} {r : Nat} {J : JS}
set_option maxRecDepth 100000 in
set_option maxHeartbeats 1600000 in
theorem mfin_err {jb ib eb wb i : Nat} {er was : Int} (h : Jn W M F r J) (hi : i < J.C.length) (hm : MvB W jb ib eb wb r i er was) (hw : W64 was) (he : er ≠ 0) (u : FrameMode) :
    CallsD Try.prog 53 #[.pointer (some ⟨eb, 0, none⟩), .pointer (some ⟨wb, 0, none⟩), .pointer (some ⟨jb, 0, none⟩), .pointer (some ⟨ib, 0, none⟩)] u W fun e u' w' => u' = u ∧ (e = .returned (.tuple #[]) ∧ Jn w' M F r { J with C := J.C.set i was } ∧ Stp W w' M M F F) := by
  obtain ⟨cb, cc, ps, lv, bs, h⟩ := h
  obtain ⟨a0, a1, a2, f0, f1, f2⟩ := three h.hr
  obtain ⟨c0, g0⟩ := h.cells.cell hi
  have e0 := (one hm.e).1
  have e1 := (one hm.w).1
  have e2 := (one hm.j).1
  have e3 := (one hm.i).1
  have hq : (er != 0) = true := by rw [bne_iff_ne]; exact he
  have hmost := h.ok.most
  generalize J.C.getD i 0 = x at c0
  have HH := Lib.hid h
  have HI := Lib.hid (And.intro hi hw)
  clear h hm he hw
  go_enter_d Try.func53, Try.ntmps53
  go_wp2_with fail
  go_still_tail 7, (by kernel_rfl)
  change wpList _ _ _ _ _ W.drew
  go_wp2_with fail
  refine bodyPost_ret (v := .tuple #[]) (results_none (by rfl) _ _ _) rfl ?_
  exact ⟨rfl, ⟨_, _, _, _, _, (HH.out.setC HI.out.1 HI.out.2).below ((Below.refl _ _).drew)⟩, (Stp.of_grown F (grown_set _) HH.out.mc).trans (Stp.of_below M F ((Below.refl _ _).drew))⟩

set_option maxRecDepth 100000 in
set_option maxHeartbeats 1600000 in
theorem mfin_ok {jb ib eb wb i : Nat} {was : Int} (h : Jn W M F r J) (hi : i < J.C.length) (hm : MvB W jb ib eb wb r i 0 was) (hw : W64 was) (u : FrameMode) (hf : ∀ k, k = jb ∨ k = ib → ¬ M k) :
    CallsD Try.prog 53 #[.pointer (some ⟨eb, 0, none⟩), .pointer (some ⟨wb, 0, none⟩), .pointer (some ⟨jb, 0, none⟩), .pointer (some ⟨ib, 0, none⟩)] u W fun e u' w' => u' = u ∧ (e = .returned (.tuple #[]) ∧ Jst W M F r w' (({ J with C := J.C.set i was } : JS).put i (J.C.getD i 0))) := by
  obtain ⟨cb, cc, ps, lv, bs, h⟩ := h
  obtain ⟨a0, a1, a2, f0, f1, f2⟩ := three h.hr
  obtain ⟨c0, g0⟩ := h.cells.cell hi
  have e0 := (one hm.e).1
  have e1 := (one hm.w).1
  have e2 := (one hm.j).1
  have e3 := (one hm.i).1
  have hmost := h.ok.most
  have hx := h.ok.ws.at hi
  generalize J.C.getD i 0 = x at *
  have HH := Lib.hid h
  have HM := Lib.hid hm
  have HI := Lib.hid (And.intro hi (And.intro hw hx))
  have HF := Lib.hid hf
  clear h hm hw hx hf
  go_enter_d Try.func53, Try.ntmps53
  go_wp2_with fail
  go_quiet (fail)
  have H1 := Lib.hid (HH.out.below (below_drewN (Below.refl _ W) nq))
  have HM1 := Lib.hid (show MvB (W.drewN nq) jb ib eb wb r i 0 was from HM.out.kept fun _ _ => rfl)
  have HS1 := Lib.hid (Stp.of_below M F (below_drewN (Below.refl _ W) nq))
  clear HH HM a0 a1 a2 f0 f1 f2 c0 g0 e0 e1 e2 e3
  go_upto_region 3 with (fail)
  generalize W.drewN nq = w1 at *
  obtain ⟨a0, a1, a2, f0, f1, f2⟩ := three H1.out.hr
  obtain ⟨c0, g0⟩ := H1.out.cells.cell HI.out.1
  generalize J.C.getD i 0 = x' at c0
  have e1 := (one HM1.out.w).1
  have e2 := (one HM1.out.j).1
  have e3 := (one HM1.out.i).1
  go_still_tail 7, (by kernel_rfl)
  change wpList _ _ _ _ _ w1.drew
  go_upto_region 4 with (fail)
  have hj2 := (H1.out.setC HI.out.1 HI.out.2.1).below ((Below.refl _ _).drew)
  have HS2 := Lib.hid ((HS1.out.trans (Stp.of_grown F (grown_set (W := w1) (r := cb) (k := i) (.int .u64 was)) H1.out.mc)).trans (Stp.of_below M F ((Below.refl (w1.setCell ⟨cb, i, none⟩ (.int .u64 was)).heap.size _).drew)))
  have hnj : jb ≠ cb := fun e => HF.out jb (.inl rfl) (e ▸ H1.out.mc)
  have hni : ib ≠ cb := fun e => HF.out ib (.inr rfl) (e ▸ H1.out.mc)
  have e2 := (one (show (w1.setCell ⟨cb, i, none⟩ (.int .u64 was)).drew.heap[jb]? = _ from (Below.heap_setCell _ _ _ _ hnj).trans HM1.out.j)).1
  have e3 := (one (show (w1.setCell ⟨cb, i, none⟩ (.int .u64 was)).drew.heap[ib]? = _ from (Below.heap_setCell _ _ _ _ hni).trans HM1.out.i)).1
  have HP := Lib.hid (put_any (⟨_, _, _, _, _, hj2⟩ : Jn _ M F r _) (by simpa using HI.out.1) HI.out.2.2)
  clear hj2 a0 a1 a2 f0 f1 f2 c0 g0 e1 hnj hni
  generalize (w1.setCell ⟨cb, i, none⟩ (.int .u64 was)).drew = w2 at *
  go_wp2_with fail
  refine HP.out.mono ?_
  rintro e w3 ⟨rfl, hj3⟩
  have HJ3 := Lib.hid hj3
  clear hj3
  go_wp2_with fail
  go_end0
  exact ⟨rfl, Jst.trans HS2.out HJ3.out⟩
end
end Go.Proofs.Ytkpfnonacebmkaa
