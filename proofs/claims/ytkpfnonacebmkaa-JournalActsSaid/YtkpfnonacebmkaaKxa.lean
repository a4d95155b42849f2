/- The document's journal: Keep, where the topmost level touched nothing. -/
import Derived.Test.YtkpfnonacebmkaaKx
namespace Go.Proofs.Ytkpfnonacebmkaa
open Go.RowKit

section
variable {W : World} {F : Nat → Prop} {r : Nat} {K : KS}
set_option maxRecDepth 100000 in
set_option maxHeartbeats 3200000 in
theorem kKeep_zero (h : Kn W F r K) {w S w2 S2 : List Int} {L' : List (List Int × List Int)} (hL : K.L = (w, S) :: (w2, S2) :: L') (ht : S2.length ≤ 1000000) (hS0 : S = []) :
    Calls Try.prog 63 #[.pointer (some ⟨r, 0, none⟩)] W fun e w' => e = .returned (.int .i64 0) ∧ Kst W F r w' ⟨K.C, (w2, S2 ++ S) :: L'⟩ := by
  obtain ⟨cb, cc, lv, ws, h⟩ := h
  obtain ⟨g, lc, b, c, sv, b2, c2, sv2, ws', rfl, hlc, rfl, hS, hS2, t1, t2⟩ := h.top2 hL
  obtain ⟨so, sc, rfl, _⟩ := lv_len hS
  obtain ⟨so2, sc2, rfl, _⟩ := lv_len hS2
  have hdp : L'.length ≤ 62 := by have := h.ok.dp; rw [hL] at this; simp at this; omega
  obtain ⟨i0, hi0, hz0, hz1, hz2⟩ := info_parts Try.info3
  generalize hdd : L'.length = d at *
  obtain ⟨a0, a1, f0, f1⟩ := two h.hr
  obtain ⟨m, hm⟩ : ∃ m, d + 1 = m := ⟨_, rfl⟩
  have e2 : d + 2 = m + 1 := by omega
  rw [e2] at h hlc a1
  rw [hm] at t1
  have hd1 : (0 : Int) ≤ d := by omega
  have hd2 : d < m + 1 := by omega
  have hd3 : (d : Int) < (m : Int) + 1 := by omega
  have hm0 : (m : Int) - 1 = d := by omega
  have hm1 : (0 : Int) < m := by omega
  have hm2 : m < m + 1 := by omega
  have hm3 : (m : Int) < (m : Int) + 1 := by omega
  have hm4 : (0 : Int) ≤ m := by omega
  have hm5 : 0 < m := by omega
  have hsub : IntKind.i64.wrap (d : Int) = d := IntWalk.i64_in _ (by omega)
  have hcut := fun W => run_cut68 g (m + 1) lc m W (by omega) hlc
  have HH := Lib.hid h
  have HL := Lib.hid (And.intro hL hdd)
  have HM := Lib.hid (And.intro hm e2)
  have HS := Lib.hid hS
  have HS2 := Lib.hid hS2
  have HCell := Lib.hid (fun (w4 : World) (hg : W.drew.grownBy w4 (Value.slice so2 S2.length sc2).ownBlock) =>
    (show w4.cell? ⟨g, d * 2 + 1, none⟩ = some (.slice so2 S2.length sc2) ∧ w4.frozen? ⟨g, d * 2 + 1, none⟩ = false ∧ w4.cell? ⟨r, 1, none⟩ = some (.slice (some ⟨g, 0, none⟩) (m + 1) lc) from by
      obtain ⟨cur, hc⟩ := h.row.lt (g := g) rfl
      have hb := (hg.block g (lt_of_block hc) (fun e => (h.set_ne (p := 1) rfl e.symm).2.2.1 g rfl rfl)).trans hc
      have hr1 := (hg.block r (lt_of_block h.hr) (fun e => (h.set_ne (p := 1) rfl e.symm).1 rfl)).trans h.hr
      refine ⟨?_, ?_, (two hr1).2.1⟩
      · rw [← t2]; simp only [World.cell?, hb, hc]
      · simp [World.frozen?, hb]))
  clear h hL hdd hS hS2 hm e2
  subst hS0
  have HO0 := Lib.hid (show LRow W.drew 3 1 (.slice so2 S2.length sc2) (S2.length + ([] : List Int).length) (S2.map (Value.int .i64) ++ ([] : List Int).map (Value.int .i64)) from by have h0 := HS2.out.kept (w' := W.drew) (fun _ _ => rfl); simpa using h0)
  have HG0 : Hid (W.drew.grownBy W.drew (Value.slice so2 S2.length sc2).ownBlock) := Lib.hid ⟨rfl, rfl, rfl, Nat.le_refl _, fun _ _ _ => rfl⟩
  have q1 : W.frozen? ⟨g, d * 2 + 1, none⟩ = false := (HCell.out W.drew HG0.out).2.1
  clear HCell
  go_enter Try.func63, Try.ntmps63
  go_wp2_with fail
  go_region_law
    (first
      | (refine step_append_none (by rfl) _ _ _ (by rfl) 3 i0 1 Try.underlying54 hi0 (.slice so2 S2.length sc2) S2.length (S2.map (Value.int .i64)) (by rfl) (HS2.out.kept fun _ _ => rfl) so sc (by rfl) ?_))
  all_goals
    obtain ⟨F5, hK5, hS5⟩ := HH.out.merged2 HL.out.1 HL.out.2 HM.out.1 ((Below.refl W.heap.size W).drew) HG0.out HO0.out (.inl rfl)
    have hr5 : (W.setCell ⟨g, d * 2 + 1, none⟩ (.slice so2 S2.length sc2)).drew.heap[r]? = _ := hK5.hr
    obtain ⟨_, z1, z2, z3⟩ := two hr5
    have hK := (show Kst W F r ((W.setCell ⟨g, d * 2 + 1, none⟩ (.slice so2 S2.length sc2)).drew.setCell ⟨r, 1, none⟩ (.slice (some ⟨g, 0, none⟩) m lc)) ⟨K.C, (w2, S2 ++ []) :: L'⟩ from Kst.trans hS5 (hK5.cutTop rfl (by rw [List.length_cons, HL.out.2, HM.out.1])))
    rw [List.append_nil] at hK
    have HK := Lib.hid hK
    clear hK5 hS5 hr5 hK
    generalize (W.setCell ⟨g, d * 2 + 1, none⟩ (.slice so2 S2.length sc2)).drew = w5 at *
    go_wp2_with fail
    go_ret
    exact ⟨rfl, HK.out⟩
end
end Go.Proofs.Ytkpfnonacebmkaa
