/- distraintlaw10.asks: an act on the document's journal. -/
import Derived.Test.YtkpfnonacebmkaaKy
import Derived.Test.YtkpfnonacebmkaaPr
namespace Go.Proofs.Ytkpfnonacebmkaa
open Go.RowKit

section
variable {W : World} {F : Nat → Prop} {r : Nat} {K : KS}
def AsksP (W : World) (F : Nat → Prop) (r : Nat) (K : KS) (kind i k n : Int) (e : Ending) (w' : World) : Prop := e = .returned (.int .i64 (K.does kind i k n).2) ∧ Kst W F r w' (K.does kind i k n).1
theorem AsksP.of {kind i k n er : Int} {K' : KS} (h : K.does kind i k n = (K', er)) {W1 w' : World} (hb : Below W.heap.size W W1) (hj : Kst W1 F r w' K') : AsksP W F r K kind i k n (.returned (.int .i64 er)) w' := by
  unfold AsksP; rw [h]; exact ⟨rfl, Kst.trans (Stp.of_below F F hb) hj⟩
set_option maxRecDepth 100000 in
set_option maxHeartbeats 3200000 in
theorem asks_any (h : Kn W F r K) (kind i k : Int) {n : Int} (hn : W64 n) (ht : K.tot + 1 ≤ 1000000) :
    Calls Try.prog 36 #[.pointer (some ⟨r, 0, none⟩), .agg #[.int .i64 kind, .int .i64 i, .int .i64 k, .int .u64 n]] W (AsksP W F r K kind i k n) := by
  have hb := (Below.refl W.heap.size W).alloc (Nat.le_refl _) (.cells #[.int .i64 kind, .int .i64 i, .int .i64 k, .int .u64 n] 50)
  have h1 := h.below hb
  have HB := Lib.hid hb
  have HD : Hid (K.does kind i k n = if kind = 0 then K.set i n else if kind = 1 then K.chg i n addR else if kind = 2 then K.chg i n subR else if kind = 3 then K.move i k n else
    if kind = 4 then (K.begin.1, K.begin.2.2) else if kind = 5 then K.keep else if kind = 6 then K.undo else if kind = 7 then K.back i else (K, 0)) := Lib.hid rfl
  by_cases c0 : kind = 0
  · subst c0
    have HC := Lib.hid (kSet_any h1 i hn (by omega))
    clear h h1 hb hn ht
    go_enter Try.func36, Try.ntmps36
    go_wp2_with fail
    refine HC.out.mono ?_
    rintro e w' ⟨rfl, hj⟩
    have HJ := Lib.hid hj
    clear hj
    go_wp2_with fail
    go_ret
    exact AsksP.of (by rw [HD.out]; rfl) HB.out HJ.out
  by_cases c1 : kind = 1
  · subst c1
    have HC := Lib.hid (kAdd_any h1 i hn (by omega))
    clear h h1 hb hn ht
    go_enter Try.func36, Try.ntmps36
    go_wp2_with fail
    refine HC.out.mono ?_
    rintro e w' ⟨rfl, hj⟩
    have HJ := Lib.hid hj
    clear hj
    go_wp2_with fail
    go_ret
    exact AsksP.of (by rw [HD.out]; rfl) HB.out HJ.out
  by_cases c2 : kind = 2
  · subst c2
    have HC := Lib.hid (kSub_any h1 i hn (by omega))
    clear h h1 hb hn ht
    go_enter Try.func36, Try.ntmps36
    go_wp2_with fail
    refine HC.out.mono ?_
    rintro e w' ⟨rfl, hj⟩
    have HJ := Lib.hid hj
    clear hj
    go_wp2_with fail
    go_ret
    exact AsksP.of (by rw [HD.out]; rfl) HB.out HJ.out
  by_cases c3 : kind = 3
  · subst c3
    have HC := Lib.hid (kMove_any h1 i k hn ht)
    clear h h1 hb hn ht
    go_enter Try.func36, Try.ntmps36
    go_wp2_with fail
    refine HC.out.mono ?_
    rintro e w' ⟨rfl, hj⟩
    have HJ := Lib.hid hj
    clear hj
    go_wp2_with fail
    go_ret
    exact AsksP.of (by rw [HD.out]; rfl) HB.out HJ.out
  by_cases c4 : kind = 4
  · subst c4
    have HC := Lib.hid (kBegin_any h1)
    clear h h1 hb hn ht
    go_enter Try.func36, Try.ntmps36
    go_wp2_with fail
    refine HC.out.mono ?_
    rintro e w' ⟨rfl, hj⟩
    have HJ := Lib.hid hj
    clear hj
    go_wp2_with fail
    go_ret
    exact AsksP.of (by rw [HD.out]; rfl) HB.out HJ.out
  by_cases c5 : kind = 5
  · subst c5
    have HC := Lib.hid (kKeep_any h1 (by omega))
    clear h h1 hb hn ht
    go_enter Try.func36, Try.ntmps36
    go_wp2_with fail
    refine HC.out.mono ?_
    rintro e w' ⟨rfl, hj⟩
    have HJ := Lib.hid hj
    clear hj
    go_wp2_with fail
    go_ret
    exact AsksP.of (by rw [HD.out]; rfl) HB.out HJ.out
  by_cases c6 : kind = 6
  · subst c6
    have HC := Lib.hid (kUndo_any h1)
    clear h h1 hb hn ht
    go_enter Try.func36, Try.ntmps36
    go_wp2_with fail
    refine HC.out.mono ?_
    rintro e w' ⟨rfl, hj⟩
    have HJ := Lib.hid hj
    clear hj
    go_wp2_with fail
    go_ret
    exact AsksP.of (by rw [HD.out]; rfl) HB.out HJ.out
  by_cases c7 : kind = 7
  · subst c7
    have HC := Lib.hid (kBack_any h1 i)
    clear h h1 hb hn ht
    go_enter Try.func36, Try.ntmps36
    go_wp2_with fail
    refine HC.out.mono ?_
    rintro e w' ⟨rfl, hj⟩
    have HJ := Lib.hid hj
    clear hj
    go_wp2_with fail
    go_ret
    exact AsksP.of (by rw [HD.out]; rfl) HB.out HJ.out
  have q0 : (kind == 0) = false := by rw [beq_eq_false_iff_ne]; assumption
  have q1 : (kind == 1) = false := by rw [beq_eq_false_iff_ne]; assumption
  have q2 : (kind == 2) = false := by rw [beq_eq_false_iff_ne]; assumption
  have q3 : (kind == 3) = false := by rw [beq_eq_false_iff_ne]; assumption
  have q4 : (kind == 4) = false := by rw [beq_eq_false_iff_ne]; assumption
  have q5 : (kind == 5) = false := by rw [beq_eq_false_iff_ne]; assumption
  have q6 : (kind == 6) = false := by rw [beq_eq_false_iff_ne]; assumption
  have q7 : (kind == 7) = false := by rw [beq_eq_false_iff_ne]; assumption
  have HV : Hid (K.does kind i k n = (K, 0)) := Lib.hid (by rw [HD.out, if_neg c0, if_neg c1, if_neg c2, if_neg c3, if_neg c4, if_neg c5, if_neg c6, if_neg c7])
  have HJ := Lib.hid (Kst.same h1 (Below.refl _ _))
  clear h h1 hb hn ht HD c0 c1 c2 c3 c4 c5 c6 c7
  go_enter Try.func36, Try.ntmps36
  go_wp2_with fail
  go_ret
  exact AsksP.of HV.out HB.out HJ.out
end
end Go.Proofs.Ytkpfnonacebmkaa
