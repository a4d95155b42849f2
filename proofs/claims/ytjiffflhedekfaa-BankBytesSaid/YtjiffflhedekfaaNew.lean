/- The walks of New, Supply, Total, Have, and of the small functions beside them. -/
import Derived.Test.YtjiffflhedekfaaCh2
namespace Go.Proofs.Ytjiffflhedekfaa
open Go.RowKit

def B0 : Bk := ⟨[], 0, 0, 0, 0⟩
/-- A bank and an error are told; the bank's accounts lie in memory of the call's own. -/
def Res (w w' : World) (e : Ending) (R : Bk × Int) : Prop :=
  ∃ ao cap, e = .returned (.tuple #[.agg #[.slice ao R.1.L.length cap, .int .u64 R.1.p0, .int .u64 R.1.p1, .int .u64 R.1.p2, .int .u64 R.1.p3], .int .i64 R.2]) ∧ OwnW w' w.heap.size ao cap R.1.L ∧ Below w.heap.size w w'
/-- What 'New' tells. -/
def newR (l : List Int) : Bk × Int := if (⟨l, 0, 0, 0, 0⟩ : Bk).chk = 0 then (⟨l, 0, 0, 0, 0⟩, 0) else (B0, (⟨l, 0, 0, 0, 0⟩ : Bk).chk)
theorem zero64 : W64 0 := ⟨by omega, by omega⟩
theorem wf_new {l : List Int} (h : Ws l) : (⟨l, 0, 0, 0, 0⟩ : Bk).Wf := ⟨h, zero64, zero64, zero64, zero64⟩
theorem OwnW.below {w w' : World} {base : Nat} {ao : Option Addr} {cap : Nat} {l : List Int} (h : OwnW w base ao cap l) (hb : Below w.heap.size w w') : OwnW w' base ao cap l :=
  World.ownsRow.kept (row := none) h ⟨hb.os, hb.tape, hb.output, hb.size, fun k hk _ => hb.block k hk⟩ (by
    cases hv : (Value.slice ao l.length cap).ownBlock <;> simp)
theorem OwnW.alloc {w : World} {base : Nat} {ao : Option Addr} {cap : Nat} {l : List Int} (h : OwnW w base ao cap l) (o : Obj) : OwnW (w.alloc o) base ao cap l := h.below ((Below.refl _ _).alloc (Nat.le_refl _) o)
theorem own_none (w : World) (base : Nat) : OwnW w base none 0 [] := World.ownsRow_nil _ _ _ _

set_option maxRecDepth 100000 in
set_option maxHeartbeats 1600000 in
/-- bank.New. -/
theorem new_any (ao : Option Addr) (l : List Int) (c : Nat) (w : World) (hl : Rd w ao l) (hw : Ws l) (nl : l.length * 8 ≤ 140737488355328) :
    Calls Try.prog 11 #[.slice ao l.length c] w fun e w' => Res w w' e (newR l) := by
  have hcl := cloneW_any ao l c (w.alloc (.cells #[.slice none 0 0, .int .u64 0, .int .u64 0, .int .u64 0, .int .u64 0] 26)) (hl.alloc _) nl
  have HC := Lib.hid hcl
  have HK := Lib.hid (fun ao c W h => check_any ao ⟨l, 0, 0, 0, 0⟩ c W h (wf_new hw) (show l.length ≤ 9223372036854775807 by omega))
  dsimp only at HK
  clear hcl
  by_cases hk : (⟨l, 0, 0, 0, 0⟩ : Bk).chk = 0
  · have HR : Hid (newR l = (⟨l, 0, 0, 0, 0⟩, 0)) := Lib.hid (by unfold newR; rw [if_pos hk])
    rw [hk] at HK
    clear hk
    go_enter Try.func11, Try.ntmps11
    go_wp2_with fail
    refine HC.out.mono ?_
    rintro e w1 ⟨ao', cap, rfl, hown, hb⟩
    have hs1 : w.heap.size + 1 ≤ w1.heap.size := by have := hb.size; simpa using this
    have HO := Lib.hid hown
    have HB := Lib.hid hb
    clear hown hb
    go_wp2_with fail
    refine (HK.out ao' cap _ ?_).mono ?_
    · exact HO.out.rd.alloc _
    rintro e w2 ⟨rfl, hb2⟩
    have hr : w2.heap[w.heap.size]? = some (.cells #[.slice none 0 0, .int .u64 0, .int .u64 0, .int .u64 0, .int .u64 0] 26 (0, 0)) :=
      (hb2.block _ (by simp; omega)).trans ((heap_old _ _ (by omega)).trans ((HB.out.block _ (by simp)).trans (heap_at w _ rfl)))
    have hk : w2.heap[w1.heap.size]? = some (.cells #[.slice ao' l.length cap, .int .u64 0, .int .u64 0, .int .u64 0, .int .u64 0] 26 (0, 0)) :=
      (hb2.block _ (by simp)).trans (heap_at w1 _ rfl)
    have HO2 := Lib.hid ((HO.out.alloc _).below hb2)
    have HB2 := Lib.hid (((((Below.refl w.heap.size w).alloc (Nat.le_refl _) _).trans (HB.out.mono (by simp))).alloc (by omega) _).trans (hb2.mono (by simp; omega)))
    obtain ⟨r0, r1, r2, r3, r4, f0, f1, f2, f3, f4⟩ := five hr
    obtain ⟨k0, k1, k2, k3, k4, _, _, _, _, _⟩ := five hk
    clear hr hk hb2
    go_wp2_with fail
    refine bodyPost_ret (v := .tuple #[.agg #[.slice ao' l.length cap, .int .u64 0, .int .u64 0, .int .u64 0, .int .u64 0], .int .i64 0]) (by simp [results, Try.results11, go_sem, r0, r1, r2, r3, r4]) rfl ?_
    rw [HR.out]
    exact ⟨ao', cap, rfl, (HO2.out.set5 (fun p hp => by have := HO.out.low p hp; simp at this; omega) _ _ _ _ _).mono (by simp), below_set5 HB2.out (by omega) _ _ _ _ _⟩
  · have HR : Hid (newR l = (B0, (⟨l, 0, 0, 0, 0⟩ : Bk).chk)) := Lib.hid (by unfold newR; rw [if_neg hk])
    generalize (⟨l, 0, 0, 0, 0⟩ : Bk).chk = er at *
    have hq : (er != 0) = true := by rw [bne_iff_ne]; exact hk
    clear hk
    go_enter Try.func11, Try.ntmps11
    go_wp2_with fail
    refine HC.out.mono ?_
    rintro e w1 ⟨ao', cap, rfl, hown, hb⟩
    have hs1 : w.heap.size + 1 ≤ w1.heap.size := by have := hb.size; simpa using this
    have HO := Lib.hid hown
    have HB := Lib.hid hb
    clear hown hb
    go_wp2_with fail
    refine (HK.out ao' cap _ ?_).mono ?_
    · exact HO.out.rd.alloc _
    rintro e w2 ⟨rfl, hb2⟩
    have hr : w2.heap[w.heap.size]? = some (.cells #[.slice none 0 0, .int .u64 0, .int .u64 0, .int .u64 0, .int .u64 0] 26 (0, 0)) :=
      (hb2.block _ (by simp; omega)).trans ((heap_old _ _ (by omega)).trans ((HB.out.block _ (by simp)).trans (heap_at w _ rfl)))
    have HB2 := Lib.hid (((((Below.refl w.heap.size w).alloc (Nat.le_refl _) _).trans (HB.out.mono (by simp))).alloc (by omega) _).trans (hb2.mono (by simp; omega)))
    obtain ⟨r0, r1, r2, r3, r4, f0, f1, f2, f3, f4⟩ := five hr
    clear hr hb2
    go_wp2_with fail
    refine bodyPost_ret (v := .tuple #[.agg #[.slice none 0 0, .int .u64 0, .int .u64 0, .int .u64 0, .int .u64 0], .int .i64 er]) (by simp [results, Try.results11, go_sem, r0, r1, r2, r3, r4]) rfl ?_
    rw [HR.out]
    exact ⟨none, 0, rfl, own_none _ _, below_set5 HB2.out (by omega) _ _ _ _ _⟩

set_option maxRecDepth 100000 in
set_option maxHeartbeats 1600000 in
/-- distraintref09.New. -/
theorem refNew_any (ao : Option Addr) (l : List Int) (c : Nat) (w : World) (hl : Rd w ao l) (hw : Ws l) (nl : l.length * 8 ≤ 140737488355328) :
    Calls Try.prog 12 #[.slice ao l.length c] w fun e w' => Res w w' e (newR l) := by
  have hcl := copyWords_any ao l c (w.alloc (.cells #[.slice none 0 0, .int .u64 0, .int .u64 0, .int .u64 0, .int .u64 0] 26)) (hl.alloc _) nl
  have HC := Lib.hid hcl
  have HK := Lib.hid (fun ao c W h => refCheck_any ao ⟨l, 0, 0, 0, 0⟩ c W h (wf_new hw) (show l.length ≤ 9223372036854775807 by omega))
  dsimp only at HK
  clear hcl
  by_cases hk : (⟨l, 0, 0, 0, 0⟩ : Bk).chk = 0
  · have HR : Hid (newR l = (⟨l, 0, 0, 0, 0⟩, 0)) := Lib.hid (by unfold newR; rw [if_pos hk])
    rw [hk] at HK
    clear hk
    go_enter Try.func12, Try.ntmps12
    go_wp2_with fail
    refine HC.out.mono ?_
    rintro e w1 ⟨g, cap, rfl, hown, hb⟩
    have hs1 : w.heap.size + 1 ≤ w1.heap.size := by have := hb.size; simpa using this
    have HO := Lib.hid hown
    have HB := Lib.hid hb
    clear hown hb
    go_wp2_with fail
    refine (HK.out (some ⟨g, 0, none⟩) cap _ ?_).mono ?_
    · exact HO.out.rd.alloc _
    rintro e w2 ⟨rfl, hb2⟩
    have hr : w2.heap[w.heap.size]? = some (.cells #[.slice none 0 0, .int .u64 0, .int .u64 0, .int .u64 0, .int .u64 0] 26 (0, 0)) :=
      (hb2.block _ (by simp; omega)).trans ((heap_old _ _ (by omega)).trans ((HB.out.block _ (by simp)).trans (heap_at w _ rfl)))
    have hk : w2.heap[w1.heap.size]? = some (.cells #[.slice (some ⟨g, 0, none⟩) l.length cap, .int .u64 0, .int .u64 0, .int .u64 0, .int .u64 0] 26 (0, 0)) :=
      (hb2.block _ (by simp)).trans (heap_at w1 _ rfl)
    have HO2 := Lib.hid ((HO.out.alloc _).below hb2)
    have HB2 := Lib.hid (((((Below.refl w.heap.size w).alloc (Nat.le_refl _) _).trans (HB.out.mono (by simp))).alloc (by omega) _).trans (hb2.mono (by simp; omega)))
    obtain ⟨r0, r1, r2, r3, r4, f0, f1, f2, f3, f4⟩ := five hr
    obtain ⟨k0, k1, k2, k3, k4, _, _, _, _, _⟩ := five hk
    clear hr hk hb2
    go_wp2_with fail
    refine bodyPost_ret (v := .tuple #[.agg #[.slice (some ⟨g, 0, none⟩) l.length cap, .int .u64 0, .int .u64 0, .int .u64 0, .int .u64 0], .int .i64 0]) (by simp [results, Try.results12, go_sem, r0, r1, r2, r3, r4]) rfl ?_
    rw [HR.out]
    exact ⟨_, cap, rfl, (HO2.out.set5 (fun p hp => by have := HO.out.low p hp; simp at this; omega) _ _ _ _ _).mono (by simp), below_set5 HB2.out (by omega) _ _ _ _ _⟩
  · have HR : Hid (newR l = (B0, (⟨l, 0, 0, 0, 0⟩ : Bk).chk)) := Lib.hid (by unfold newR; rw [if_neg hk])
    generalize (⟨l, 0, 0, 0, 0⟩ : Bk).chk = er at *
    have hq : (er != 0) = true := by rw [bne_iff_ne]; exact hk
    clear hk
    go_enter Try.func12, Try.ntmps12
    go_wp2_with fail
    refine HC.out.mono ?_
    rintro e w1 ⟨g, cap, rfl, hown, hb⟩
    have hs1 : w.heap.size + 1 ≤ w1.heap.size := by have := hb.size; simpa using this
    have HO := Lib.hid hown
    have HB := Lib.hid hb
    clear hown hb
    go_wp2_with fail
    refine (HK.out (some ⟨g, 0, none⟩) cap _ ?_).mono ?_
    · exact HO.out.rd.alloc _
    rintro e w2 ⟨rfl, hb2⟩
    have hr : w2.heap[w.heap.size]? = some (.cells #[.slice none 0 0, .int .u64 0, .int .u64 0, .int .u64 0, .int .u64 0] 26 (0, 0)) :=
      (hb2.block _ (by simp; omega)).trans ((heap_old _ _ (by omega)).trans ((HB.out.block _ (by simp)).trans (heap_at w _ rfl)))
    have HB2 := Lib.hid (((((Below.refl w.heap.size w).alloc (Nat.le_refl _) _).trans (HB.out.mono (by simp))).alloc (by omega) _).trans (hb2.mono (by simp; omega)))
    obtain ⟨r0, r1, r2, r3, r4, f0, f1, f2, f3, f4⟩ := five hr
    clear hr hb2
    go_wp2_with fail
    refine bodyPost_ret (v := .tuple #[.agg #[.slice none 0 0, .int .u64 0, .int .u64 0, .int .u64 0, .int .u64 0], .int .i64 er]) (by simp [results, Try.results12, go_sem, r0, r1, r2, r3, r4]) rfl ?_
    rw [HR.out]
    exact ⟨none, 0, rfl, own_none _ _, below_set5 HB2.out (by omega) _ _ _ _ _⟩
end Go.Proofs.Ytjiffflhedekfaa
