/- The walks of Burn and does. -/
import Derived.Test.YtjiffflhedekfaaMv3
namespace Go.Proofs.Ytjiffflhedekfaa
open Go.RowKit

set_option maxRecDepth 100000 in
set_option maxHeartbeats 1600000 in
/-- bank.Burn. -/
theorem burn_any (ao : Option Addr) (B : Bk) (c : Nat) (f n : Int) (w : World) (hB : Rd w ao B.L) (hw : B.Wf) (nB : B.L.length ≤ 9223372036854775807) (hn : W64 n) :
    Calls Try.prog 34 #[.agg #[.slice ao B.L.length c, .int .u64 B.p0, .int .u64 B.p1, .int .u64 B.p2, .int .u64 B.p3], .int .i64 f, .int .u64 n] w
      fun e w' => Res w w' e (movR B f 2 n) := by
  have HM := Lib.hid (fun W h => mov_any ao B c f 2 n W h hw nB hn)
  have HB := Lib.hid hB
  clear hB hn
  go_enter Try.func34, Try.ntmps34
  go_wp2_with fail
  refine (HM.out _ ((HB.out.alloc _).alloc _)).mono ?_
  rintro e w1 ⟨ao', cap, rfl, hown, hb⟩
  generalize hR : movR B f 2 n = R at *
  have HR := Lib.hid hR
  clear hR
  obtain ⟨⟨L, p0, p1, p2, p3⟩, er⟩ := R
  dsimp only at *
  have hk := (hb.block (w.heap.size + 1) (by simp)).trans (heap_at (w.alloc _) _ (by simp))
  obtain ⟨z0, z1, z2, z3, z4, f0, f1, f2, f3, f4⟩ := five hk
  have HO := Lib.hid ((hown.set5 (b := w.heap.size + 1) (fun p hp => by have := hown.low p hp; simp at this; omega) (.slice ao' L.length cap) (.int .u64 p0) (.int .u64 p1) (.int .u64 p2) (.int .u64 p3)).mono (base' := w.heap.size) (by simp; omega))
  have HW := Lib.hid (below_set5 (((((Below.refl w.heap.size w).alloc (Nat.le_refl _) _).alloc (by simp) _)).trans (hb.mono (by simp; omega))) (b := w.heap.size + 1) (by omega) (.slice ao' L.length cap) (.int .u64 p0) (.int .u64 p1) (.int .u64 p2) (.int .u64 p3))
  clear hk hown hb HM HB
  go_wp2_with fail
  refine bodyPost_ret (v := .tuple #[.agg #[.slice ao' L.length cap, .int .u64 p0, .int .u64 p1, .int .u64 p2, .int .u64 p3], .int .i64 er]) (by simp [results, Try.results34, go_sem, z0, z1, z2, z3, z4]) rfl ?_
  rw [HR.out]
  exact ⟨ao', cap, rfl, HO.out, HW.out⟩

/-- What a move of the law tells. -/
def doesR (B : Bk) (k f t n : Int) : Bk × Int :=
  if k = 0 then sendR B f t n else if k = 1 then payR B f t n else if k = 2 then takeR B f t n else if k = 3 then movR B f t n else if k = 4 then movR B f 2 n else (B0, 0)

set_option maxRecDepth 100000 in
set_option maxHeartbeats 3200000 in
/-- distraintlaw09.does. -/
theorem does_any (ao : Option Addr) (B : Bk) (c : Nat) (k f t n : Int) (w : World) (hB : Rd w ao B.L) (hw : B.Wf) (nB : B.L.length ≤ 9223372036854775807) (hn : W64 n) :
    Calls Try.prog 23 #[.agg #[.slice ao B.L.length c, .int .u64 B.p0, .int .u64 B.p1, .int .u64 B.p2, .int .u64 B.p3], .agg #[.int .i64 k, .int .i64 f, .int .i64 t, .int .u64 n]] w
      fun e w' => Res w w' e (doesR B k f t n) := by
  by_cases h0 : k = 0
  · have HR : Hid (doesR B k f t n = sendR B f t n) := Lib.hid (by subst h0; rfl)
    have HM := Lib.hid (fun W h => send_any ao B c f t n W h hw nB hn)
    have HB := Lib.hid hB
    have HN := Lib.hid hn
    subst h0
    clear hB hn
    go_enter Try.func23, Try.ntmps23
    go_wp2_with fail
    refine (HM.out _ (((HB.out.alloc _).alloc _).alloc _)).mono ?_
    rintro e w1 ⟨ao', cap, rfl, hown, hb⟩
    generalize sendR B f t n = R at *
    obtain ⟨⟨L, p0, p1, p2, p3⟩, er⟩ := R
    dsimp only at *
    have hk := (hb.block (w.heap.size + 2) (by simp)).trans (heap_at ((w.alloc _).alloc _) _ (by simp))
    obtain ⟨z0, z1, z2, z3, z4, f0, f1, f2, f3, f4⟩ := five hk
    have HO := Lib.hid ((hown.set5 (b := w.heap.size + 2) (fun p hp => by have := hown.low p hp; simp at this; omega) (.slice ao' L.length cap) (.int .u64 p0) (.int .u64 p1) (.int .u64 p2) (.int .u64 p3)).mono (base' := w.heap.size) (by simp; omega))
    have HW := Lib.hid (below_set5 ((((((Below.refl w.heap.size w).alloc (Nat.le_refl _) _).alloc (by simp) _).alloc (by simp; omega) _)).trans (hb.mono (by simp; omega))) (b := w.heap.size + 2) (by omega) (.slice ao' L.length cap) (.int .u64 p0) (.int .u64 p1) (.int .u64 p2) (.int .u64 p3))
    clear hk hown hb HM HB
    go_wp2_with fail
    refine bodyPost_ret (v := .tuple #[.agg #[.slice ao' L.length cap, .int .u64 p0, .int .u64 p1, .int .u64 p2, .int .u64 p3], .int .i64 er]) (by simp [results, Try.results23, go_sem, z0, z1, z2, z3, z4]) rfl ?_
    rw [HR.out]
    exact ⟨ao', cap, rfl, HO.out, HW.out⟩
  by_cases h1 : k = 1
  · have HR : Hid (doesR B k f t n = payR B f t n) := Lib.hid (by subst h1; rfl)
    have HM := Lib.hid (fun W h => pay_any ao B c f t n W h hw nB hn)
    have HB := Lib.hid hB
    have HN := Lib.hid hn
    subst h1
    clear hB hn
    go_enter Try.func23, Try.ntmps23
    go_wp2_with fail
    refine (HM.out _ (((HB.out.alloc _).alloc _).alloc _)).mono ?_
    rintro e w1 ⟨ao', cap, rfl, hown, hb⟩
    generalize payR B f t n = R at *
    obtain ⟨⟨L, p0, p1, p2, p3⟩, er⟩ := R
    dsimp only at *
    have hk := (hb.block (w.heap.size + 2) (by simp)).trans (heap_at ((w.alloc _).alloc _) _ (by simp))
    obtain ⟨z0, z1, z2, z3, z4, f0, f1, f2, f3, f4⟩ := five hk
    have HO := Lib.hid ((hown.set5 (b := w.heap.size + 2) (fun p hp => by have := hown.low p hp; simp at this; omega) (.slice ao' L.length cap) (.int .u64 p0) (.int .u64 p1) (.int .u64 p2) (.int .u64 p3)).mono (base' := w.heap.size) (by simp; omega))
    have HW := Lib.hid (below_set5 ((((((Below.refl w.heap.size w).alloc (Nat.le_refl _) _).alloc (by simp) _).alloc (by simp; omega) _)).trans (hb.mono (by simp; omega))) (b := w.heap.size + 2) (by omega) (.slice ao' L.length cap) (.int .u64 p0) (.int .u64 p1) (.int .u64 p2) (.int .u64 p3))
    clear hk hown hb HM HB
    go_wp2_with fail
    refine bodyPost_ret (v := .tuple #[.agg #[.slice ao' L.length cap, .int .u64 p0, .int .u64 p1, .int .u64 p2, .int .u64 p3], .int .i64 er]) (by simp [results, Try.results23, go_sem, z0, z1, z2, z3, z4]) rfl ?_
    rw [HR.out]
    exact ⟨ao', cap, rfl, HO.out, HW.out⟩
  by_cases h2 : k = 2
  · have HR : Hid (doesR B k f t n = takeR B f t n) := Lib.hid (by subst h2; rfl)
    have HM := Lib.hid (fun W h => take_any ao B c f t n W h hw nB hn)
    have HB := Lib.hid hB
    have HN := Lib.hid hn
    subst h2
    clear hB hn
    go_enter Try.func23, Try.ntmps23
    go_wp2_with fail
    refine (HM.out _ (((HB.out.alloc _).alloc _).alloc _)).mono ?_
    rintro e w1 ⟨ao', cap, rfl, hown, hb⟩
    generalize takeR B f t n = R at *
    obtain ⟨⟨L, p0, p1, p2, p3⟩, er⟩ := R
    dsimp only at *
    have hk := (hb.block (w.heap.size + 2) (by simp)).trans (heap_at ((w.alloc _).alloc _) _ (by simp))
    obtain ⟨z0, z1, z2, z3, z4, f0, f1, f2, f3, f4⟩ := five hk
    have HO := Lib.hid ((hown.set5 (b := w.heap.size + 2) (fun p hp => by have := hown.low p hp; simp at this; omega) (.slice ao' L.length cap) (.int .u64 p0) (.int .u64 p1) (.int .u64 p2) (.int .u64 p3)).mono (base' := w.heap.size) (by simp; omega))
    have HW := Lib.hid (below_set5 ((((((Below.refl w.heap.size w).alloc (Nat.le_refl _) _).alloc (by simp) _).alloc (by simp; omega) _)).trans (hb.mono (by simp; omega))) (b := w.heap.size + 2) (by omega) (.slice ao' L.length cap) (.int .u64 p0) (.int .u64 p1) (.int .u64 p2) (.int .u64 p3))
    clear hk hown hb HM HB
    go_wp2_with fail
    refine bodyPost_ret (v := .tuple #[.agg #[.slice ao' L.length cap, .int .u64 p0, .int .u64 p1, .int .u64 p2, .int .u64 p3], .int .i64 er]) (by simp [results, Try.results23, go_sem, z0, z1, z2, z3, z4]) rfl ?_
    rw [HR.out]
    exact ⟨ao', cap, rfl, HO.out, HW.out⟩
  by_cases h3 : k = 3
  · have HR : Hid (doesR B k f t n = movR B f t n) := Lib.hid (by subst h3; rfl)
    have HM := Lib.hid (fun W h => mov_any ao B c f t n W h hw nB hn)
    have HB := Lib.hid hB
    have HN := Lib.hid hn
    subst h3
    clear hB hn
    go_enter Try.func23, Try.ntmps23
    go_wp2_with fail
    refine (HM.out _ (((HB.out.alloc _).alloc _).alloc _)).mono ?_
    rintro e w1 ⟨ao', cap, rfl, hown, hb⟩
    generalize movR B f t n = R at *
    obtain ⟨⟨L, p0, p1, p2, p3⟩, er⟩ := R
    dsimp only at *
    have hk := (hb.block (w.heap.size + 2) (by simp)).trans (heap_at ((w.alloc _).alloc _) _ (by simp))
    obtain ⟨z0, z1, z2, z3, z4, f0, f1, f2, f3, f4⟩ := five hk
    have HO := Lib.hid ((hown.set5 (b := w.heap.size + 2) (fun p hp => by have := hown.low p hp; simp at this; omega) (.slice ao' L.length cap) (.int .u64 p0) (.int .u64 p1) (.int .u64 p2) (.int .u64 p3)).mono (base' := w.heap.size) (by simp; omega))
    have HW := Lib.hid (below_set5 ((((((Below.refl w.heap.size w).alloc (Nat.le_refl _) _).alloc (by simp) _).alloc (by simp; omega) _)).trans (hb.mono (by simp; omega))) (b := w.heap.size + 2) (by omega) (.slice ao' L.length cap) (.int .u64 p0) (.int .u64 p1) (.int .u64 p2) (.int .u64 p3))
    clear hk hown hb HM HB
    go_wp2_with fail
    refine bodyPost_ret (v := .tuple #[.agg #[.slice ao' L.length cap, .int .u64 p0, .int .u64 p1, .int .u64 p2, .int .u64 p3], .int .i64 er]) (by simp [results, Try.results23, go_sem, z0, z1, z2, z3, z4]) rfl ?_
    rw [HR.out]
    exact ⟨ao', cap, rfl, HO.out, HW.out⟩
  by_cases h4 : k = 4
  · have HR : Hid (doesR B k f t n = movR B f 2 n) := Lib.hid (by subst h4; rfl)
    have HM := Lib.hid (fun W h => burn_any ao B c f n W h hw nB hn)
    have HB := Lib.hid hB
    have HN := Lib.hid hn
    subst h4
    clear hB hn
    go_enter Try.func23, Try.ntmps23
    go_wp2_with fail
    refine (HM.out _ (((HB.out.alloc _).alloc _).alloc _)).mono ?_
    rintro e w1 ⟨ao', cap, rfl, hown, hb⟩
    generalize movR B f 2 n = R at *
    obtain ⟨⟨L, p0, p1, p2, p3⟩, er⟩ := R
    dsimp only at *
    have hk := (hb.block (w.heap.size + 2) (by simp)).trans (heap_at ((w.alloc _).alloc _) _ (by simp))
    obtain ⟨z0, z1, z2, z3, z4, f0, f1, f2, f3, f4⟩ := five hk
    have HO := Lib.hid ((hown.set5 (b := w.heap.size + 2) (fun p hp => by have := hown.low p hp; simp at this; omega) (.slice ao' L.length cap) (.int .u64 p0) (.int .u64 p1) (.int .u64 p2) (.int .u64 p3)).mono (base' := w.heap.size) (by simp; omega))
    have HW := Lib.hid (below_set5 ((((((Below.refl w.heap.size w).alloc (Nat.le_refl _) _).alloc (by simp) _).alloc (by simp; omega) _)).trans (hb.mono (by simp; omega))) (b := w.heap.size + 2) (by omega) (.slice ao' L.length cap) (.int .u64 p0) (.int .u64 p1) (.int .u64 p2) (.int .u64 p3))
    clear hk hown hb HM HB
    go_wp2_with fail
    refine bodyPost_ret (v := .tuple #[.agg #[.slice ao' L.length cap, .int .u64 p0, .int .u64 p1, .int .u64 p2, .int .u64 p3], .int .i64 er]) (by simp [results, Try.results23, go_sem, z0, z1, z2, z3, z4]) rfl ?_
    rw [HR.out]
    exact ⟨ao', cap, rfl, HO.out, HW.out⟩
  have HR : Hid (doesR B k f t n = (B0, 0)) := Lib.hid (by unfold doesR; rw [if_neg h0, if_neg h1, if_neg h2, if_neg h3, if_neg h4])
  have q0 : (k == 0) = false := by simpa using h0
  have q1 : (k == 1) = false := by simpa using h1
  have q2 : (k == 2) = false := by simpa using h2
  have q3 : (k == 3) = false := by simpa using h3
  have q4 : (k == 4) = false := by simpa using h4
  clear h0 h1 h2 h3 h4 hB hn
  go_enter Try.func23, Try.ntmps23
  go_wp2_with fail
  refine bodyPost_ret (v := .tuple #[.agg #[.slice none 0 0, .int .u64 0, .int .u64 0, .int .u64 0, .int .u64 0], .int .i64 0]) (by simp [results, Try.results23, go_sem]) rfl ?_
  rw [HR.out]
  exact ⟨none, 0, rfl, own_none _ _, by repeat (first | exact Below.refl _ _ | refine Below.setCell ?_ (by simp; try omega) _ | refine Below.alloc ?_ (by simp; try omega) _)⟩
end Go.Proofs.Ytjiffflhedekfaa
