/- The walks of the concrete functions chapter and awake. -/
import Derived.Test.YtjiffflhedekfaaMv4
import Derived.Test.YtjiffflhedekfaaAsk
import Derived.Test.YtjiffflhedekfaaCopy
namespace Go.Proofs.Ytjiffflhedekfaa
open Go.RowKit

theorem rd_two {w : World} {b : Nat} {x y : Int} {t : TypeId} (h : w.heap[b]? = some (.cells #[.int .u64 x, .int .u64 y] t (0, 0))) : Rd w (some ⟨b, 0, none⟩) [x, y] := fun k hk => by
  refine ⟨b, 0, rfl, ?_⟩
  simp at hk
  rcases (show k = 0 ∨ k = 1 by omega) with rfl | rfl <;> simp [World.cell?, h]

set_option maxRecDepth 100000 in
set_option maxHeartbeats 1600000 in
/-- distraintlaw09.chapter. -/
theorem chapter_any (w : World) :
    Calls Try.prog 32 #[] w
      fun e w' => ∃ ao cap, e = .returned (.tuple #[.agg #[.slice ao 2 cap, .int .u64 30, .int .u64 0, .int .u64 0, .int .u64 0], .bool true]) ∧ OwnW w' w.heap.size ao cap [70, 50] ∧ Below w.heap.size w w' := by
  have HN := Lib.hid (fun ao c W h => new_any ao [100, 50] c W h (fun x hx => by simp at hx; rcases hx with rfl | rfl <;> exact ⟨by omega, by omega⟩) (by simp))
  have HR : newR [100, 50] = (⟨[100, 50], 0, 0, 0, 0⟩, 0) := by decide
  have HT := Lib.hid (fun ao c W h => take_any ao ⟨[100, 50], 0, 0, 0, 0⟩ c 0 0 30 W h (wf_new (fun x hx => by simp at hx; rcases hx with rfl | rfl <;> exact ⟨by omega, by omega⟩)) (by simp) ⟨by omega, by omega⟩)
  have HR2 : takeR ⟨[100, 50], 0, 0, 0, 0⟩ 0 0 30 = (⟨[70, 50], 30, 0, 0, 0⟩, 0) := by decide
  rw [HR] at HN
  rw [HR2] at HT
  clear HR HR2
  go_enter Try.func32, Try.ntmps32
  go_wp2_with fail
  refine (HN.out _ 2 _ (rd_two (heap_at _ _ (by simp)))).mono ?_
  rintro e w1 ⟨ao1, c1, rfl, hown, hb⟩
  dsimp only at *
  have hs1 : w.heap.size + 2 ≤ w1.heap.size := by have := hb.size; simpa using this
  have H0 := Lib.hid ((hb.block w.heap.size (by simp; omega)).trans ((heap_old _ _ (by simp)).trans (heap_at w _ rfl)))
  have HO := Lib.hid hown
  have HW := Lib.hid ((((Below.refl w.heap.size w).alloc (Nat.le_refl _) _).alloc (by simp) _).trans (hb.mono (by simp; omega)))
  clear hown hb HN
  go_wp2_with fail
  refine (HT.out _ c1 _ (HO.out.rd.alloc _)).mono ?_
  rintro e w2 ⟨ao2, c2, rfl, hown, hb⟩
  dsimp only at *
  have hs2 : w1.heap.size + 1 ≤ w2.heap.size := by have := hb.size; simpa using this
  have hk := (hb.block w.heap.size (by simp; omega)).trans ((heap_old _ _ (by omega)).trans H0.out)
  obtain ⟨y0, y1, y2, y3, y4, g0, g1, g2, g3, g4⟩ := five hk
  have hk2 := (hb.block w1.heap.size (by simp)).trans (heap_at _ _ rfl)
  obtain ⟨z0, z1, z2, z3, z4, f0, f1, f2, f3, f4⟩ := five hk2
  have HO2 := Lib.hid ((hown.set5 (b := w1.heap.size) (fun p hp => by have := hown.low p hp; simp at this; omega) (.slice ao2 2 c2) (.int .u64 30) (.int .u64 0) (.int .u64 0) (.int .u64 0)).mono (base' := w.heap.size + 2) (by simp; omega))
  have HW2 := Lib.hid (below_set5 (((HW.out).alloc (by omega) _).trans (hb.mono (by simp; omega))) (b := w1.heap.size) (by omega) (.slice ao2 2 c2) (.int .u64 30) (.int .u64 0) (.int .u64 0) (.int .u64 0))
  clear hown hb HT H0 HO HW
  go_wp2_with fail
  change Code.wp _ _ _ _ (set5 w2 w1.heap.size (.slice ao2 2 c2) (.int .u64 30) (.int .u64 0) (.int .u64 0) (.int .u64 0))
  generalize hW : set5 w2 w1.heap.size (.slice ao2 2 c2) (.int .u64 30) (.int .u64 0) (.int .u64 0) (.int .u64 0) = W at *
  clear y0 y1 y2 y3 y4 g0 g1 g2 g3 g4
  have hsW : W.heap.size = w2.heap.size := by subst hW; exact size_set5 ..
  have hk1 : W.heap[w1.heap.size]? = some (.cells #[.slice ao2 2 c2, .int .u64 30, .int .u64 0, .int .u64 0, .int .u64 0] 26 (0, 0)) := by subst hW; exact heap_set5 hk2 _ _ _ _ _
  have hk0 : W.heap[w.heap.size]? = some (.cells #[.slice none 0 0, .int .u64 0, .int .u64 0, .int .u64 0, .int .u64 0] 26 (0, 0)) := by subst hW; rw [heap_set5_other _ (by omega)]; exact hk
  obtain ⟨k0, k1, k2, k3, k4, i0, i1, i2, i3, i4⟩ := five hk1
  clear hk hk2 hW z0 z1 z2 z3 z4 f0 f1 f2 f3 f4
  have HS : Hid (∀ bo W', Below W.heap.size W W' → Rd W' bo [70, 50] → Calls Try.prog 42 #[.slice ao2 2 c2, .slice bo 2 2] W' fun e w' => e = .returned (.bool true) ∧
      w'.heap[w1.heap.size]? = some (.cells #[.slice ao2 2 c2, .int .u64 30, .int .u64 0, .int .u64 0, .int .u64 0] 26 (0, 0)) ∧
      w'.heap[w.heap.size]? = some (.cells #[.slice none 0 0, .int .u64 0, .int .u64 0, .int .u64 0, .int .u64 0] 26 (0, 0)) ∧
      Hid (OwnW w' (w.heap.size + 2) ao2 c2 [70, 50] ∧ Below w.heap.size w w' ∧ ∀ p, ao2 = some p → p.block ≠ w.heap.size)) :=
    Lib.hid (fun bo W' h hr => (sameWords_any ao2 bo [70, 50] [70, 50] c2 2 W' (HO2.out.rd.below h) hr (by simp) (by simp)).mono (by
      rintro e w' ⟨rfl, n, rfl⟩
      have h' := below_drewN h n
      exact ⟨by simp, (h'.block _ (by omega)).trans hk1, (h'.block _ (by omega)).trans hk0, Lib.hid ⟨HO2.out.below h', HW2.out.trans (h'.mono (by omega)), fun p hp => by have := HO2.out.low p hp; omega⟩⟩))
  clear HO2 HW2 hk1 hk0
  have hn1 : w1.heap.size ≠ w.heap.size := by omega
  have hn2 : w.heap.size ≠ w1.heap.size := by omega
  have hpe : ∀ W : World, (binOp .eql 24 (.agg #[.int .u64 30, .int .u64 0, .int .u64 0, .int .u64 0]) (.agg #[.int .u64 30, .int .u64 0, .int .u64 0, .int .u64 0])).run Try.prog W = .ok (.bool true) W := fun W => pools_eq 30 0 0 0 30 0 0 0 W
  go_region_held3 (fun w' => w'.cell? ⟨w1.heap.size, 0, none⟩ = some (.slice ao2 2 c2) ∧ w'.cell? ⟨w1.heap.size, 1, none⟩ = some (.int .u64 30) ∧ w'.cell? ⟨w1.heap.size, 2, none⟩ = some (.int .u64 0) ∧ w'.cell? ⟨w1.heap.size, 3, none⟩ = some (.int .u64 0) ∧ w'.cell? ⟨w1.heap.size, 4, none⟩ = some (.int .u64 0)) (first | assumption | (refine ⟨?_, ?_, ?_, ?_, ?_⟩ <;> (simp [go_sem, hn1, hn2, k0, k1, k2, k3, k4, World.cell?_alloc_past]; done)) | go_keep)
    (first | (go_at_call 42; refine (HS.out _ _ (by exact ((Below.refl _ _).alloc (Nat.le_refl _) _).drew) (by exact rd_two (heap_at _ _ hsW.symm))).mono ?_; rintro e w3 ⟨rfl, hk1, hk0, HF⟩; obtain ⟨k0, k1, k2, k3, k4, i0, i1, i2, i3, i4⟩ := five hk1; obtain ⟨y0, y1, y2, y3, y4, g0, g1, g2, g3, g4⟩ := five hk0; clear hk1 hk0))
  go_wp2_with fail
  refine bodyPost_ret (v := .tuple #[.agg #[.slice ao2 2 c2, .int .u64 30, .int .u64 0, .int .u64 0, .int .u64 0], .bool true]) (by simp [results, Try.results32, go_sem, y0, y1, y2, y3, y4]) rfl ?_
  exact ⟨ao2, c2, rfl, (HF.out.1.set5 HF.out.2.2 _ _ _ _ _).mono (by omega), below_set5 HF.out.2.1 (Nat.le_refl _) _ _ _ _ _⟩
end Go.Proofs.Ytjiffflhedekfaa
