/- The walk of awake. -/
import Derived.Test.YtjiffflhedekfaaChp
namespace Go.Proofs.Ytjiffflhedekfaa
open Go.RowKit

theorem wf_any (B : Bk) (h1 : Ws B.L) (h2 : W64 B.p0) (h3 : W64 B.p1) (h4 : W64 B.p2) (h5 : W64 B.p3) : B.Wf := ⟨h1, h2, h3, h4, h5⟩
theorem ws_two {x y : Int} (hx : W64 x) (hy : W64 y) : Ws [x, y] := fun z hz => by simp at hz; rcases hz with rfl | rfl <;> assumption

set_option maxRecDepth 100000 in
set_option maxHeartbeats 3200000 in
/-- distraintlaw09.awake. -/
theorem awake_any (w : World) : Calls Try.prog 9 #[] w fun e w' => e = .returned (.bool true) ∧ Below w.heap.size w w' := by
  have k64 : ∀ k : Nat, k < 18446744073709551616 → W64 k := fun k h => ⟨by omega, by omega⟩
  have wf1 : (⟨[70, 50], 30, 0, 0, 0⟩ : Bk).Wf := wf_any _ (ws_two (k64 70 (by omega)) (k64 50 (by omega))) (k64 30 (by omega)) zero64 zero64 zero64
  have HSup := Lib.hid (fun ao c W h => supply_any ao ⟨[70, 50], 30, 0, 0, 0⟩ c W h wf1 (by simp))
  have hc : (⟨[70, 50], 30, 0, 0, 0⟩ : Bk).chk = 0 := by decide
  have ht : (⟨[70, 50], 30, 0, 0, 0⟩ : Bk).tot = 150 := by decide
  have hs : sendR ⟨[70, 50], 30, 0, 0, 0⟩ 0 1 70 = (⟨[0, 120], 30, 0, 0, 0⟩, 0) := by decide
  have hbn : movR ⟨[70, 50], 30, 0, 0, 0⟩ 0 2 10 = (⟨[70, 50], 20, 0, 10, 0⟩, 0) := by decide
  rw [hc, ht, if_pos rfl] at HSup
  have HSnd : Hid (∀ ao c W, Rd W ao [70, 50] → Calls Try.prog 41 #[.agg #[.slice ao 2 c, .int .u64 30, .int .u64 0, .int .u64 0, .int .u64 0], .int .i64 0, .int .i64 1, .int .u64 70] W fun e w' =>
      ∃ ao cap, e = .returned (.tuple #[.agg #[.slice ao 2 cap, .int .u64 30, .int .u64 0, .int .u64 0, .int .u64 0], .int .i64 0]) ∧ OwnW w' W.heap.size ao cap [0, 120] ∧ Below W.heap.size W w') :=
    Lib.hid (fun ao c W h => by have := send_any ao ⟨[70, 50], 30, 0, 0, 0⟩ c 0 1 70 W h wf1 (by simp) (k64 70 (by omega)); rw [hs] at this; exact this)
  have HBrn : Hid (∀ ao c W, Rd W ao [70, 50] → Calls Try.prog 34 #[.agg #[.slice ao 2 c, .int .u64 30, .int .u64 0, .int .u64 0, .int .u64 0], .int .i64 0, .int .u64 10] W fun e w' =>
      ∃ ao cap, e = .returned (.tuple #[.agg #[.slice ao 2 cap, .int .u64 20, .int .u64 0, .int .u64 10, .int .u64 0], .int .i64 0]) ∧ OwnW w' W.heap.size ao cap [70, 50] ∧ Below W.heap.size W w') :=
    Lib.hid (fun ao c W h => by have := burn_any ao ⟨[70, 50], 30, 0, 0, 0⟩ c 0 10 W h wf1 (by simp) (k64 10 (by omega)); rw [hbn] at this; exact this)
  clear hc ht hs hbn wf1 k64
  go_enter Try.func9, Try.ntmps9
  go_wp2_with fail
  refine (chapter_any w).mono ?_
  rintro e w1 ⟨ao1, c1, rfl, hown, hb⟩
  have hs1 : w.heap.size ≤ w1.heap.size := hb.size
  have HO := Lib.hid hown
  have HW := Lib.hid hb
  clear hown hb
  go_wp2_with fail
  refine (HSup.out _ c1 _ (HO.out.rd.alloc _)).mono ?_
  rintro e w2 ⟨rfl, hb⟩
  have hs2 : w1.heap.size + 1 ≤ w2.heap.size := by have := hb.size; simpa using this
  have hk := (hb.block w1.heap.size (by simp)).trans (heap_at _ _ rfl)
  obtain ⟨z0, z1, z2, z3, z4, f0, f1, f2, f3, f4⟩ := five hk
  have HK := Lib.hid hk
  have HO2 := Lib.hid ((HO.out.alloc _).below hb)
  have HW2 := Lib.hid ((HW.out.alloc hs1 _).trans (hb.mono (by simp; omega)))
  clear hk hb HO HW HSup
  go_wp2_with fail
  refine (HSnd.out _ c1 _ HO2.out.rd).mono ?_
  rintro e w3 ⟨ao3, c3, rfl, hown, hb⟩
  dsimp only at *
  have hs3 : w2.heap.size ≤ w3.heap.size := hb.size
  have hk := (hb.block w1.heap.size (by omega)).trans HK.out
  clear z0 z1 z2 z3 z4 f0 f1 f2 f3 f4
  have hk3 := (heap_old w3 (.cells #[.slice ao3 2 c3, .int .u64 30, .int .u64 0, .int .u64 0, .int .u64 0] 26) (by omega)).trans hk
  obtain ⟨z0, z1, z2, z3, z4, f0, f1, f2, f3, f4⟩ := five hk3
  clear hk3
  have HO3 := Lib.hid hown
  have HO2' := Lib.hid (HO2.out.below hb)
  have HW3 := Lib.hid (HW2.out.trans (hb.mono (by omega)))
  clear hk hb HK HO2 HW2 HSnd hown
  go_wp2_with fail
  refine (HBrn.out _ c1 _ (HO2'.out.rd.alloc _)).mono ?_
  rintro e w4 ⟨ao4, c4, rfl, hown, hb⟩
  have hs4 : w3.heap.size + 1 ≤ w4.heap.size := by have := hb.size; simpa using this
  have hb' : Below w3.heap.size w3 w4 := ((Below.refl _ _).alloc (Nat.le_refl _) _).trans (hb.mono (by simp))
  have hc0 : (w4.alloc (.cells #[.slice ao4 2 c4, .int .u64 20, .int .u64 0, .int .u64 10, .int .u64 0] 26)).cell? ⟨w3.heap.size, 0, none⟩ = some (.slice ao3 2 c3) :=
    (five ((heap_old w4 _ (by omega)).trans ((hb.block w3.heap.size (by simp)).trans (heap_at _ _ rfl)))).1
  have hb4 : Below w3.heap.size w3 (w4.alloc (.cells #[.slice ao4 2 c4, .int .u64 20, .int .u64 0, .int .u64 10, .int .u64 0] 26)) := hb'.alloc (by omega) _
  have HW4 := Lib.hid (HW3.out.trans (hb4.mono (by omega)))
  have hk4 := heap_at w4 (.cells #[.slice ao4 2 c4, .int .u64 20, .int .u64 0, .int .u64 10, .int .u64 0] 26) rfl
  have HR4 := Lib.hid (HO3.out.rd.below hb4)
  clear hb hb' HBrn HO2' HO3 HW3 hown z0 z1 z2 z3 z4 f0 f1 f2 f3 f4 hb4
  have hs5 := Nat.lt_succ_of_le (Nat.le_refl w4.heap.size)
  have hpe : ∀ W : World, (binOp .eql 24 (.agg #[.int .u64 20, .int .u64 0, .int .u64 10, .int .u64 0]) (.agg #[.int .u64 20, .int .u64 0, .int .u64 10, .int .u64 0])).run Try.prog W = .ok (.bool true) W := fun W => pools_eq 20 0 10 0 20 0 10 0 W
  have HK4 := Lib.hid hk4
  clear hk4
  go_wp2_with fail
  refine (sameWords_any ao3 _ [0, 120] [0, 120] c3 2 _ (HR4.out.alloc _) (rd_two (heap_at _ _ (by simp))) (by simp) (by simp)).mono ?_
  rintro e w5 ⟨rfl, n, rfl⟩
  rw [show decide (([0, 120] : List Int) = [0, 120]) = true by simp]
  generalize hV : ((w4.alloc (.cells #[.slice ao4 2 c4, .int .u64 20, .int .u64 0, .int .u64 10, .int .u64 0] 26)).alloc (.cells #[.int .u64 0, .int .u64 120] 23)).drewN n = V
  obtain ⟨z0, z1, z2, z3, z4, f0, f1, f2, f3, f4⟩ := five ((by subst hV; exact (heap_old _ _ (by simp)).trans HK4.out) : V.heap[w4.heap.size]? = some (.cells #[.slice ao4 2 c4, .int .u64 20, .int .u64 0, .int .u64 10, .int .u64 0] 26 (0, 0)))
  have HV := Lib.hid (show Below w.heap.size w V by subst hV; exact below_drewN (HW4.out.alloc (by simp; omega) _) n)
  clear hV hc0 HW4 HR4 HK4
  go_wp2_with fail
  refine bodyPost_ret (v := .bool true) (by simp [results, Try.results9, go_sem]) rfl ?_
  exact ⟨rfl, HV.out⟩
end Go.Proofs.Ytjiffflhedekfaa
