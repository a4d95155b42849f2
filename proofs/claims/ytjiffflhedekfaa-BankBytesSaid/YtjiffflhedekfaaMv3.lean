/- The walks of Send, Pay, Take, Move, Burn. -/
import Derived.Test.YtjiffflhedekfaaMv2
namespace Go.Proofs.Ytjiffflhedekfaa
open Go.RowKit

def sendR (B : Bk) (f t n : Int) : Bk × Int := moveR B ⟨false, f⟩ ⟨false, t⟩ n (f == t || n == 0)
def payR (B : Bk) (f t n : Int) : Bk × Int := moveR B ⟨true, f⟩ ⟨false, t⟩ n (f == 2)
def takeR (B : Bk) (f t n : Int) : Bk × Int := moveR B ⟨false, f⟩ ⟨true, t⟩ n false
def movR (B : Bk) (f t n : Int) : Bk × Int := moveR B ⟨true, f⟩ ⟨true, t⟩ n (f == t || f == 2)
theorem moves_at (tf tt : Nat) (pf pt : Bool) (hf : (⟨pf, 0⟩ : Pl).ty = tf) (ht : (⟨pt, 0⟩ : Pl).ty = tt) (ao : Option Addr) (B : Bk) (c : Nat) (f t n : Int) (bar : Bool) (w : World) (hB : Rd w ao B.L) (hw : B.Wf) (nB : B.L.length ≤ 9223372036854775807) (hn : W64 n) :
    Calls Try.prog 67 #[.agg #[.slice ao B.L.length c, .int .u64 B.p0, .int .u64 B.p1, .int .u64 B.p2, .int .u64 B.p3], .iface tf (.int .i64 f), .iface tt (.int .i64 t), .int .u64 n, .bool bar] w
      fun e w' => Res w w' e (moveR B ⟨pf, f⟩ ⟨pt, t⟩ n bar) := by
  subst hf ht
  exact moves_any ao B c ⟨pf, f⟩ ⟨pt, t⟩ n bar w hB hw nB hn
theorem bpair (a b : Bool) (h : a = true) : (a || b) = true := by rw [h]; rfl
theorem bpair' (a b : Bool) (h : a = false) : (a || b) = b := by rw [h]; rfl

set_option maxRecDepth 100000 in
set_option maxHeartbeats 1600000 in
/-- bank.Send. -/
theorem send_any (ao : Option Addr) (B : Bk) (c : Nat) (f t n : Int) (w : World) (hB : Rd w ao B.L) (hw : B.Wf) (nB : B.L.length ≤ 9223372036854775807) (hn : W64 n) :
    Calls Try.prog 41 #[.agg #[.slice ao B.L.length c, .int .u64 B.p0, .int .u64 B.p1, .int .u64 B.p2, .int .u64 B.p3], .int .i64 f, .int .i64 t, .int .u64 n] w
      fun e w' => Res w w' e (sendR B f t n) := by
  have HM := Lib.hid (fun bar W h => moves_at 75 75 false false rfl rfl ao B c f t n bar W h hw nB hn)
  have HB := Lib.hid hB
  clear hB hn
  by_cases hq : f = t
  · have hq1 : (f == t) = true := by simpa using hq
    have HQ := Lib.hid hq1
    clear hq
    go_enter Try.func41, Try.ntmps41
    go_wp2_with fail
    refine (HM.out _ _ ((HB.out.alloc _).alloc _)).mono ?_
    rintro e w1 ⟨ao', cap, rfl, hown, hb⟩
    have HR : Hid (sendR B f t n = moveR B ⟨false, f⟩ ⟨false, t⟩ n (true)) := Lib.hid (by unfold sendR; rw [bpair _ _ HQ.out])
    generalize moveR B ⟨false, f⟩ ⟨false, t⟩ n (true) = R at *
    obtain ⟨⟨L, p0, p1, p2, p3⟩, er⟩ := R
    dsimp only at *
    have hk := (hb.block (w.heap.size + 1) (by simp)).trans (heap_at (w.alloc _) _ (by simp))
    obtain ⟨z0, z1, z2, z3, z4, f0, f1, f2, f3, f4⟩ := five hk
    have HO := Lib.hid ((hown.set5 (b := w.heap.size + 1) (fun p hp => by have := hown.low p hp; simp at this; omega) (.slice ao' L.length cap) (.int .u64 p0) (.int .u64 p1) (.int .u64 p2) (.int .u64 p3)).mono (base' := w.heap.size) (by simp; omega))
    have HW := Lib.hid (below_set5 (((((Below.refl w.heap.size w).alloc (Nat.le_refl _) _).alloc (by simp) _)).trans (hb.mono (by simp; omega))) (b := w.heap.size + 1) (by omega) (.slice ao' L.length cap) (.int .u64 p0) (.int .u64 p1) (.int .u64 p2) (.int .u64 p3))
    clear hk hown hb HM HB
    go_wp2_with fail
    refine bodyPost_ret (v := .tuple #[.agg #[.slice ao' L.length cap, .int .u64 p0, .int .u64 p1, .int .u64 p2, .int .u64 p3], .int .i64 er]) (by simp [results, Try.results41, go_sem, z0, z1, z2, z3, z4]) rfl ?_
    rw [HR.out]
    exact ⟨ao', cap, rfl, HO.out, HW.out⟩
  · have hq1 : (f == t) = false := by simpa using hq
    have HQ := Lib.hid hq1
    clear hq
    go_enter Try.func41, Try.ntmps41
    go_wp2_with fail
    refine (HM.out _ _ ((HB.out.alloc _).alloc _)).mono ?_
    rintro e w1 ⟨ao', cap, rfl, hown, hb⟩
    have HR : Hid (sendR B f t n = moveR B ⟨false, f⟩ ⟨false, t⟩ n (n == 0)) := Lib.hid (by unfold sendR; rw [bpair' _ _ HQ.out])
    generalize moveR B ⟨false, f⟩ ⟨false, t⟩ n (n == 0) = R at *
    obtain ⟨⟨L, p0, p1, p2, p3⟩, er⟩ := R
    dsimp only at *
    have hk := (hb.block (w.heap.size + 1) (by simp)).trans (heap_at (w.alloc _) _ (by simp))
    obtain ⟨z0, z1, z2, z3, z4, f0, f1, f2, f3, f4⟩ := five hk
    have HO := Lib.hid ((hown.set5 (b := w.heap.size + 1) (fun p hp => by have := hown.low p hp; simp at this; omega) (.slice ao' L.length cap) (.int .u64 p0) (.int .u64 p1) (.int .u64 p2) (.int .u64 p3)).mono (base' := w.heap.size) (by simp; omega))
    have HW := Lib.hid (below_set5 (((((Below.refl w.heap.size w).alloc (Nat.le_refl _) _).alloc (by simp) _)).trans (hb.mono (by simp; omega))) (b := w.heap.size + 1) (by omega) (.slice ao' L.length cap) (.int .u64 p0) (.int .u64 p1) (.int .u64 p2) (.int .u64 p3))
    clear hk hown hb HM HB
    go_wp2_with fail
    refine bodyPost_ret (v := .tuple #[.agg #[.slice ao' L.length cap, .int .u64 p0, .int .u64 p1, .int .u64 p2, .int .u64 p3], .int .i64 er]) (by simp [results, Try.results41, go_sem, z0, z1, z2, z3, z4]) rfl ?_
    rw [HR.out]
    exact ⟨ao', cap, rfl, HO.out, HW.out⟩

set_option maxRecDepth 100000 in
set_option maxHeartbeats 1600000 in
/-- bank.Pay. -/
theorem pay_any (ao : Option Addr) (B : Bk) (c : Nat) (f t n : Int) (w : World) (hB : Rd w ao B.L) (hw : B.Wf) (nB : B.L.length ≤ 9223372036854775807) (hn : W64 n) :
    Calls Try.prog 35 #[.agg #[.slice ao B.L.length c, .int .u64 B.p0, .int .u64 B.p1, .int .u64 B.p2, .int .u64 B.p3], .int .i64 f, .int .i64 t, .int .u64 n] w
      fun e w' => Res w w' e (payR B f t n) := by
  have HM := Lib.hid (fun bar W h => moves_at 89 75 true false rfl rfl ao B c f t n bar W h hw nB hn)
  have HB := Lib.hid hB
  clear hB hn
  go_enter Try.func35, Try.ntmps35
  go_wp2_with fail
  refine (HM.out _ _ ((HB.out.alloc _).alloc _)).mono ?_
  rintro e w1 ⟨ao', cap, rfl, hown, hb⟩
  have HR : Hid (payR B f t n = moveR B ⟨true, f⟩ ⟨false, t⟩ n (f == 2)) := Lib.hid (by rfl)
  generalize moveR B ⟨true, f⟩ ⟨false, t⟩ n (f == 2) = R at *
  obtain ⟨⟨L, p0, p1, p2, p3⟩, er⟩ := R
  dsimp only at *
  have hk := (hb.block (w.heap.size + 1) (by simp)).trans (heap_at (w.alloc _) _ (by simp))
  obtain ⟨z0, z1, z2, z3, z4, f0, f1, f2, f3, f4⟩ := five hk
  have HO := Lib.hid ((hown.set5 (b := w.heap.size + 1) (fun p hp => by have := hown.low p hp; simp at this; omega) (.slice ao' L.length cap) (.int .u64 p0) (.int .u64 p1) (.int .u64 p2) (.int .u64 p3)).mono (base' := w.heap.size) (by simp; omega))
  have HW := Lib.hid (below_set5 (((((Below.refl w.heap.size w).alloc (Nat.le_refl _) _).alloc (by simp) _)).trans (hb.mono (by simp; omega))) (b := w.heap.size + 1) (by omega) (.slice ao' L.length cap) (.int .u64 p0) (.int .u64 p1) (.int .u64 p2) (.int .u64 p3))
  clear hk hown hb HM HB
  go_wp2_with fail
  refine bodyPost_ret (v := .tuple #[.agg #[.slice ao' L.length cap, .int .u64 p0, .int .u64 p1, .int .u64 p2, .int .u64 p3], .int .i64 er]) (by simp [results, Try.results35, go_sem, z0, z1, z2, z3, z4]) rfl ?_
  rw [HR.out]
  exact ⟨ao', cap, rfl, HO.out, HW.out⟩

set_option maxRecDepth 100000 in
set_option maxHeartbeats 1600000 in
/-- bank.Take. -/
theorem take_any (ao : Option Addr) (B : Bk) (c : Nat) (f t n : Int) (w : World) (hB : Rd w ao B.L) (hw : B.Wf) (nB : B.L.length ≤ 9223372036854775807) (hn : W64 n) :
    Calls Try.prog 50 #[.agg #[.slice ao B.L.length c, .int .u64 B.p0, .int .u64 B.p1, .int .u64 B.p2, .int .u64 B.p3], .int .i64 f, .int .i64 t, .int .u64 n] w
      fun e w' => Res w w' e (takeR B f t n) := by
  have HM := Lib.hid (fun bar W h => moves_at 75 89 false true rfl rfl ao B c f t n bar W h hw nB hn)
  have HB := Lib.hid hB
  clear hB hn
  go_enter Try.func50, Try.ntmps50
  go_wp2_with fail
  refine (HM.out _ _ ((HB.out.alloc _).alloc _)).mono ?_
  rintro e w1 ⟨ao', cap, rfl, hown, hb⟩
  have HR : Hid (takeR B f t n = moveR B ⟨false, f⟩ ⟨true, t⟩ n (false)) := Lib.hid (by rfl)
  generalize moveR B ⟨false, f⟩ ⟨true, t⟩ n (false) = R at *
  obtain ⟨⟨L, p0, p1, p2, p3⟩, er⟩ := R
  dsimp only at *
  have hk := (hb.block (w.heap.size + 1) (by simp)).trans (heap_at (w.alloc _) _ (by simp))
  obtain ⟨z0, z1, z2, z3, z4, f0, f1, f2, f3, f4⟩ := five hk
  have HO := Lib.hid ((hown.set5 (b := w.heap.size + 1) (fun p hp => by have := hown.low p hp; simp at this; omega) (.slice ao' L.length cap) (.int .u64 p0) (.int .u64 p1) (.int .u64 p2) (.int .u64 p3)).mono (base' := w.heap.size) (by simp; omega))
  have HW := Lib.hid (below_set5 (((((Below.refl w.heap.size w).alloc (Nat.le_refl _) _).alloc (by simp) _)).trans (hb.mono (by simp; omega))) (b := w.heap.size + 1) (by omega) (.slice ao' L.length cap) (.int .u64 p0) (.int .u64 p1) (.int .u64 p2) (.int .u64 p3))
  clear hk hown hb HM HB
  go_wp2_with fail
  refine bodyPost_ret (v := .tuple #[.agg #[.slice ao' L.length cap, .int .u64 p0, .int .u64 p1, .int .u64 p2, .int .u64 p3], .int .i64 er]) (by simp [results, Try.results50, go_sem, z0, z1, z2, z3, z4]) rfl ?_
  rw [HR.out]
  exact ⟨ao', cap, rfl, HO.out, HW.out⟩

set_option maxRecDepth 100000 in
set_option maxHeartbeats 1600000 in
/-- bank.Move. -/
theorem mov_any (ao : Option Addr) (B : Bk) (c : Nat) (f t n : Int) (w : World) (hB : Rd w ao B.L) (hw : B.Wf) (nB : B.L.length ≤ 9223372036854775807) (hn : W64 n) :
    Calls Try.prog 51 #[.agg #[.slice ao B.L.length c, .int .u64 B.p0, .int .u64 B.p1, .int .u64 B.p2, .int .u64 B.p3], .int .i64 f, .int .i64 t, .int .u64 n] w
      fun e w' => Res w w' e (movR B f t n) := by
  have HM := Lib.hid (fun bar W h => moves_at 89 89 true true rfl rfl ao B c f t n bar W h hw nB hn)
  have HB := Lib.hid hB
  clear hB hn
  by_cases hq : f = t
  · have hq1 : (f == t) = true := by simpa using hq
    have HQ := Lib.hid hq1
    clear hq
    go_enter Try.func51, Try.ntmps51
    go_wp2_with fail
    refine (HM.out _ _ ((HB.out.alloc _).alloc _)).mono ?_
    rintro e w1 ⟨ao', cap, rfl, hown, hb⟩
    have HR : Hid (movR B f t n = moveR B ⟨true, f⟩ ⟨true, t⟩ n (true)) := Lib.hid (by unfold movR; rw [bpair _ _ HQ.out])
    generalize moveR B ⟨true, f⟩ ⟨true, t⟩ n (true) = R at *
    obtain ⟨⟨L, p0, p1, p2, p3⟩, er⟩ := R
    dsimp only at *
    have hk := (hb.block (w.heap.size + 1) (by simp)).trans (heap_at (w.alloc _) _ (by simp))
    obtain ⟨z0, z1, z2, z3, z4, f0, f1, f2, f3, f4⟩ := five hk
    have HO := Lib.hid ((hown.set5 (b := w.heap.size + 1) (fun p hp => by have := hown.low p hp; simp at this; omega) (.slice ao' L.length cap) (.int .u64 p0) (.int .u64 p1) (.int .u64 p2) (.int .u64 p3)).mono (base' := w.heap.size) (by simp; omega))
    have HW := Lib.hid (below_set5 (((((Below.refl w.heap.size w).alloc (Nat.le_refl _) _).alloc (by simp) _)).trans (hb.mono (by simp; omega))) (b := w.heap.size + 1) (by omega) (.slice ao' L.length cap) (.int .u64 p0) (.int .u64 p1) (.int .u64 p2) (.int .u64 p3))
    clear hk hown hb HM HB
    go_wp2_with fail
    refine bodyPost_ret (v := .tuple #[.agg #[.slice ao' L.length cap, .int .u64 p0, .int .u64 p1, .int .u64 p2, .int .u64 p3], .int .i64 er]) (by simp [results, Try.results51, go_sem, z0, z1, z2, z3, z4]) rfl ?_
    rw [HR.out]
    exact ⟨ao', cap, rfl, HO.out, HW.out⟩
  · have hq1 : (f == t) = false := by simpa using hq
    have HQ := Lib.hid hq1
    clear hq
    go_enter Try.func51, Try.ntmps51
    go_wp2_with fail
    refine (HM.out _ _ ((HB.out.alloc _).alloc _)).mono ?_
    rintro e w1 ⟨ao', cap, rfl, hown, hb⟩
    have HR : Hid (movR B f t n = moveR B ⟨true, f⟩ ⟨true, t⟩ n (f == 2)) := Lib.hid (by unfold movR; rw [bpair' _ _ HQ.out])
    generalize moveR B ⟨true, f⟩ ⟨true, t⟩ n (f == 2) = R at *
    obtain ⟨⟨L, p0, p1, p2, p3⟩, er⟩ := R
    dsimp only at *
    have hk := (hb.block (w.heap.size + 1) (by simp)).trans (heap_at (w.alloc _) _ (by simp))
    obtain ⟨z0, z1, z2, z3, z4, f0, f1, f2, f3, f4⟩ := five hk
    have HO := Lib.hid ((hown.set5 (b := w.heap.size + 1) (fun p hp => by have := hown.low p hp; simp at this; omega) (.slice ao' L.length cap) (.int .u64 p0) (.int .u64 p1) (.int .u64 p2) (.int .u64 p3)).mono (base' := w.heap.size) (by simp; omega))
    have HW := Lib.hid (below_set5 (((((Below.refl w.heap.size w).alloc (Nat.le_refl _) _).alloc (by simp) _)).trans (hb.mono (by simp; omega))) (b := w.heap.size + 1) (by omega) (.slice ao' L.length cap) (.int .u64 p0) (.int .u64 p1) (.int .u64 p2) (.int .u64 p3))
    clear hk hown hb HM HB
    go_wp2_with fail
    refine bodyPost_ret (v := .tuple #[.agg #[.slice ao' L.length cap, .int .u64 p0, .int .u64 p1, .int .u64 p2, .int .u64 p3], .int .i64 er]) (by simp [results, Try.results51, go_sem, z0, z1, z2, z3, z4]) rfl ?_
    rw [HR.out]
    exact ⟨ao', cap, rfl, HO.out, HW.out⟩
end Go.Proofs.Ytjiffflhedekfaa
