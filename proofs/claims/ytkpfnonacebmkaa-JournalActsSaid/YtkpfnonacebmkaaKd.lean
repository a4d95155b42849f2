/- The document's journal: Begin. -/
import Derived.Test.YtkpfnonacebmkaaKc
namespace Go.Proofs.Ytkpfnonacebmkaa
open Go.RowKit

theorem Try.info76 : (Try.prog.info? 76).map (fun i => (i.zero, i.size, i.bytes)) = some (some (.agg #[.slice none 0 0, .slice none 0 0]), 2, 48) := by kernel_rfl
theorem OwnW.toC {w : World} {base b cap : Nat} {l : List Int} (h : OwnW w base (some ⟨b, 0, none⟩) cap l) : OwnC w b cap l ∧ base ≤ b ∧ b < w.heap.size := by
  rcases h.2 with ⟨h1, _⟩ | ⟨g, c, cur, h1, h2, h3, r⟩
  · simp at h1
  · have h1' := h1
    simp only [Value.slice.injEq, Option.some.injEq, Addr.mk.injEq, true_and, and_true] at h1
    obtain ⟨rfl, rfl⟩ := h1
    exact ⟨⟨h.1, .inr ⟨_, _, cur, rfl, Nat.zero_le _, h3, r⟩⟩, h2, lt_of_block h3⟩
section
variable {W : World} {F : Nat → Prop} {r : Nat} {K : KS}
theorem Kg.begun {cb cc d lc g g2 cap cap2 N : Nat} {lo : Option Addr} {ws : List LB} {w2 w3 w4 : World} (h : Kg W F r K cb cc (.slice lo d lc) ws) (hd0 : K.L.length = d) (hd1 : d ≤ 63)
    (hB : Below W.heap.size W w2) (hO : OwnW w2 W.heap.size (some ⟨g2, 0, none⟩) cap2 K.C) (hB3 : Below w2.heap.size w2 w3) (hs : w3.heap.size = N)
    (ho : LRow w4 76 2 (.slice (some ⟨g, 0, none⟩) (d + 1) cap) (d + 1) (rowK K.L ws ++ [.slice (some ⟨g2, 0, none⟩) K.C.length cap2, .slice none 0 0])) (hg : w3.grownBy w4 (Value.slice lo d lc).ownBlock) (ha : (Value.slice lo d lc).ownBlock = some g ∨ g = N) (hgl : g < w4.heap.size) :
    Kst W F r (w4.setCell ⟨r, 1, none⟩ (.slice (some ⟨g, 0, none⟩) (d + 1) cap)) { K with L := (K.C, []) :: K.L } := by
  obtain ⟨hC, hg0, hg1⟩ := hO.toC
  obtain ⟨cur, hcur⟩ := hC.typed
  have hBB : Below W.heap.size W w3 := hB.trans (hB3.mono hB.size)
  have h3 := h.below hBB
  have h5 := h3.opened hd0 hd1 (hC.kept (hB3.block g2 hg1)) (fun hf => by have := h.fl _ hf; omega) ho hg (ha.imp id fun e => e.trans hs.symm) hgl
  refine ⟨_, ⟨_, _, _, _, h5⟩, ?_⟩
  have hgg : F g ∨ W.heap.size ≤ g := by
    rcases ha with e | e
    · exact .inl (h.ml _ e)
    · exact .inr (by have := hBB.size; omega)
  have k2 : Stp w3 w4 F F F F := ⟨hg.os, hg.tape, hg.output, hg.size, fun k hk hn => hg.block k hk (fun e => hn (h.ml k e.symm)), fun _ h => .inl h, fun _ h => .inl h⟩
  have k3 := ((Stp.of_below F F hBB).trans k2).trans (Stp.of_grown (M := F) F (grown_set (W := w4) (r := r) (k := 1) (.slice (some ⟨g, 0, none⟩) (d + 1) cap)) h.mr)
  have new : ∀ k, (F k ∨ k = g2 ∨ k = g) → F k ∨ W.heap.size ≤ k := by
    rintro k (h1 | rfl | rfl)
    · exact .inl h1
    · exact .inr hg0
    · exact hgg
  exact ⟨k3.os, k3.tape, k3.output, k3.size, k3.block, new, new⟩

set_option maxRecDepth 100000 in
set_option maxHeartbeats 3200000 in
theorem kBegin_any (h : Kn W F r K) :
    Calls Try.prog 14 #[.pointer (some ⟨r, 0, none⟩)] W fun e w' => e = .returned (.tuple #[.int .i64 K.begin.2.1, .int .i64 K.begin.2.2]) ∧ Kst W F r w' K.begin.1 := by
  have HJ := Lib.hid h
  obtain ⟨cb, cc, lv, ws, h⟩ := h
  obtain ⟨lo, lc, rfl, hob⟩ := lv_len h.row
  obtain ⟨a0, a1, f0, f1⟩ := two h.hr
  have hdp := h.ok.dp
  have HH := Lib.hid h
  by_cases h64 : 64 ≤ K.L.length
  · have HB : Hid (K.begin = (K, 0, 7)) := Lib.hid (by unfold KS.begin; rw [if_pos h64])
    clear h hob
    go_enter Try.func14, Try.ntmps14
    go_wp2_with fail
    go_ret2
    rw [HB.out]
    exact ⟨rfl, Kst.same HJ.out (Below.refl _ _)⟩
  · have HB : Hid (K.begin = ({ K with L := (K.C, []) :: K.L }, (K.L.length : Int) + 1, 0)) := Lib.hid (by unfold KS.begin; rw [if_neg h64])
    have h63 : K.L.length ≤ 63 := by omega
    obtain ⟨i0, hi, hz0, hz1, hz2⟩ := info_parts Try.info76
    have hmost := h.ok.most
    have HC := Lib.hid (copied_any _ K.C cc W.drew h.cells.rd (by omega))
    clear h h64 hob
    generalize hdd : K.L.length = d at *
    have HDD := Lib.hid hdd
    clear hdd
    have hge : decide (64 ≤ (d : Int)) = false := decide_eq_false (by omega)
    go_enter Try.func14, Try.ntmps14
    go_wp2_with fail
    go_region_law
      (first
        | (go_simp; go_at_call 38; refine HC.out.mono ?_; rintro e w2 ⟨g2, cap2, rfl, hown2, hb1⟩
           have hb2 : Below W.heap.size W w2 := ((Below.refl W.heap.size W).drew).trans hb1
           have hK2 := HH.out.below hb2
           obtain ⟨b0, b1, _, b3⟩ := two hK2.hr
           have hrl2 : r < w2.heap.size := lt_of_block hK2.hr
           have HW2 := Lib.hid (And.intro hown2 hb2)
           have hB3 := (Below.refl w2.heap.size w2).alloc (Nat.le_refl _) (.cells #[.slice (some ⟨g2, 0, none⟩) K.C.length cap2, .slice none 0 0] 76)
           have hK3 := hK2.below hB3
           have HR2 := Lib.hid hK3.row
           have HN2 := Lib.hid (World.news_of_block (w := w2.alloc (.cells #[.slice (some ⟨g2, 0, none⟩) K.C.length cap2, .slice none 0 0] 76)) (B := w2.heap.size) (cs := #[.slice (some ⟨g2, 0, none⟩) K.C.length cap2, .slice none 0 0]) (t := 76) (fr := (0, 0)) (heap_at w2 _ rfl))
           have HC2 : Hid (∀ u ∈ [Value.slice (some ⟨g2, 0, none⟩) K.C.length cap2, Value.slice none 0 0], u.oneCell' = true) := Lib.hid (by simp [Value.oneCell'])
           have HS2 : Hid ((w2.alloc (.cells #[.slice (some ⟨g2, 0, none⟩) K.C.length cap2, .slice none 0 0] 76)).heap.size = w2.heap.size + 1) := Lib.hid (by simp)
           have HCell := Lib.hid (fun (w4 : World) (hg : (w2.alloc (.cells #[.slice (some ⟨g2, 0, none⟩) K.C.length cap2, .slice none 0 0] 76)).grownBy w4 (Value.slice lo d lc).ownBlock) =>
             (show w4.cell? ⟨r, 1, none⟩ = some (.slice lo d lc) ∧ w4.frozen? ⟨r, 1, none⟩ = false from by
               have hb := (hg.block r (lt_of_block hK3.hr) (fun e => (hK3.row_ne e.symm).1 rfl)).trans hK3.hr
               obtain ⟨_, x1, _, y1⟩ := two hb
               exact ⟨x1, y1⟩))
           have HB3 := Lib.hid hB3
           clear hK2 hK3 hB3 hown2 hb2 hb1)
        | (refine step_append_lrow (by rfl) _ _ _ (by rfl) 76 i0 (.agg #[.slice none 0 0, .slice none 0 0]) 2 48 Try.underlying68 hi hz0 hz1 hz2 rfl (by decide) (.slice lo d lc) d (rowK K.L ws) (by rfl) (by rw [← HDD.out]; have := HR2.out; rw [HDD.out] at this ⊢; exact this) ⟨w2.heap.size, 0, none⟩ 1 1 [.slice (some ⟨g2, 0, none⟩) K.C.length cap2, .slice none 0 0] (by rfl) (by rfl) HN2.out HC2.out (by omega) (by simp only [maxLen]; omega) (by omega) (w2.heap.size + 1) HS2.out ?_; intro g cap w4 hown4 hgrow4 hat4 hlt4; have HG4 := Lib.hid hgrow4; have HO4 := Lib.hid hown4; have HA4 := Lib.hid hat4; have HX4 := HCell.out w4 hgrow4; obtain ⟨q0, q1⟩ := HX4; clear hgrow4 hat4 hown4))
    all_goals
      have hK := HH.out.begun HDD.out h63 HW2.out.2 HW2.out.1 HB3.out HS2.out HO4.out HG4.out HA4.out hlt4
      have HK := Lib.hid hK
      have hr5 : w4.heap[r]? = some (.cells #[.slice (some ⟨cb, 0, none⟩) K.C.length cc, .slice lo d lc] 70 (0, 0)) := by
        have hk3 := (HH.out.below HW2.out.2).below HB3.out
        exact (HG4.out.block r (lt_of_block hk3.hr) (fun e => (hk3.row_ne e.symm).1 rfl)).trans hk3.hr
      obtain ⟨_, z1, _⟩ := two (heap2_set1 hr5 (.slice (some ⟨g, 0, none⟩) (d + 1) cap))
      clear hK hr5
      generalize w4.setCell ⟨r, 1, none⟩ (.slice (some ⟨g, 0, none⟩) (d + 1) cap) = w5 at *
      go_wp2_with fail
      go_ret2
      rw [HB.out]
      exact ⟨rfl, HK.out⟩
end
end Go.Proofs.Ytkpfnonacebmkaa
