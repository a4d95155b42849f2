/- journal: Begin. -/
import Derived.Test.YtkpfnonacebmkaaSe
import Derived.Deep.RegionLaw
namespace Go.Proofs.Ytkpfnonacebmkaa
open Go.RowKit

theorem Try.info73 : (Try.prog.info? 73).map (fun i => (i.zero, i.size, i.bytes)) = some (some (.agg #[.pointer none, .map none]), 2, 16) := by kernel_rfl
/-- Begin. -/
def JS.begin (J : JS) : JS × Int × Int := if 64 ≤ J.L.length then (J, 0, 7) else ({ J with L := (J.U.length, []) :: J.L }, (J.L.length : Int) + 1, 0)
section
variable {W : World} {M F : Nat → Prop} {r : Nat} {J : JS}
theorem Jg.none_any {cb cc : Nat} {ps : List Nat} {lv : Value} {bs : List Nat} (h : Jg W M F r J cb cc ps lv bs) : Calls Try.prog 37 #[.pointer (some ⟨r, 0, none⟩)] W fun e w' => e = .returned (.bool false) ∧ W = w' :=
  Ytkpfnonacebmkaa.none_any h.hr h.ok.pos

/-- A level is opened. -/
theorem Jg.opened {W2 w4 : World} {cb cc d lc g cap bm : Nat} {ps : List Nat} {lo : Option Addr} {bs : List Nat} (h : Jg W2 M F r J cb cc ps (.slice lo d lc) bs) (hd0 : J.L.length = d) (hd1 : d ≤ 63) (hm : W2.heap[bm]? = some (.map #[] 0)) (hbm : ¬ F bm)
    (ho : LRow w4 73 2 (.slice (some ⟨g, 0, none⟩) (d + 1) cap) (d + 1) (rowOf ps J.L bs ++ [.pointer (hd ps), .map (some bm)])) (hg : W2.grownBy w4 (Value.slice lo d lc).ownBlock) (ha : (Value.slice lo d lc).ownBlock = some g ∨ g = W2.heap.size) (hgl : g < w4.heap.size) :
    Jg (w4.setCell ⟨r, 2, none⟩ (.slice (some ⟨g, 0, none⟩) (d + 1) cap)) (fun k => M k ∨ k = bm ∨ k = g) (fun k => F k ∨ k = bm ∨ k = g) r { J with L := (J.U.length, []) :: J.L } cb cc ps (.slice (some ⟨g, 0, none⟩) (d + 1) cap) (bm :: bs) := by
  have hs : w4.grownBy (w4.setCell ⟨r, 2, none⟩ (.slice (some ⟨g, 0, none⟩) (d + 1) cap)) (some r) := grown_set _
  have hk : ∀ k, k < W2.heap.size → k ≠ r → (Value.slice lo d lc).ownBlock ≠ some k → (w4.setCell ⟨r, 2, none⟩ (.slice (some ⟨g, 0, none⟩) (d + 1) cap)).heap[k]? = W2.heap[k]? := fun k hk hne hno =>
    (hs.block k (Nat.lt_of_lt_of_le hk hg.size) (fun e => hne (by cases e; rfl))).trans (hg.block k hk (fun e => hno e.symm))
  have hsz : (w4.setCell ⟨r, 2, none⟩ (.slice (some ⟨g, 0, none⟩) (d + 1) cap)).heap.size = w4.heap.size := by simp [World.setCell]
  have hbl := lt_of_block hm
  have hgr : g ≠ r := by
    rcases ha with ha | rfl
    · exact (h.row_ne ha).1
    · have := lt_of_block h.hr; omega
  have hr4 : w4.heap[r]? = some (.cells #[.slice (some ⟨cb, 0, none⟩) J.C.length cc, .pointer (hd ps), .slice lo d lc] 65 (0, 0)) := (hg.block r (lt_of_block h.hr) (fun e => (h.row_ne e.symm).1 rfl)).trans h.hr
  have hmr : ∀ k, (Value.slice lo d lc).ownBlock = some k → M k := h.ml
  have hbo : (Value.slice lo d lc).ownBlock ≠ some bm := fun e => hbm (h.mf _ (h.ml _ e))
  have hlen := h.chain.length
  refine ⟨heap3_set2 hr4 _, h.cells.kept (hk cb (h.fl _ (h.mf _ h.mc)) h.r_cb.symm (fun e => (h.row_ne e).2 rfl)), ?_, ?_, ⟨?_, ?_⟩, ?_, .inl h.mr, .inl h.mc, fun k e => .inr (.inr (by simp [Value.ownBlock] at e; exact e.symm)), ?_, ?_, ?_, ?_⟩
  · refine h.chain.kept (fun k hk' => hk k (h.fl k hk'.1) (fun e => hk'.2 (e ▸ h.mr)) (fun e => hk'.2 (hmr k e))) (fun k hk' => ⟨.inl hk'.1, ?_⟩)
    rintro (h1 | rfl | rfl)
    · exact hk'.2 h1
    · exact hbm hk'.1
    · rcases ha with ha | rfl
      · exact hk'.2 (hmr _ ha)
      · have := h.fl _ hk'.1; omega
  · have e1 : rowOf ps ((J.U.length, []) :: J.L) (bm :: bs) = rowOf ps J.L bs ++ [.pointer (hd ps), .map (some bm)] := by
      rw [rowOf, hlen, Nat.sub_self, List.drop_zero]
    simp only [List.length_cons, hd0, e1]
    exact ho.kept fun k e => by
      simp [Value.ownBlock] at e
      subst e
      exact hs.block g hgl (fun e => hgr (by cases e; rfl))
  · have hb4 := hk bm hbl (fun e => hbm (e ▸ h.mf _ h.mr)) hbo
    refine ⟨.map [], ?_, fun x => ?_⟩
    · obtain ⟨es, clock, k1, k2⟩ := World.ownsMap_made (H := Unit) W2 Try.prog 3 unitElem
      have k1' : (W2.alloc (.map #[] 0)).heap[W2.heap.size]? = some (.map #[] 0) := heap_at _ _ rfl
      rw [k1'] at k1
      simp only [Option.some.injEq, Obj.map.injEq] at k1
      obtain ⟨rfl, rfl⟩ := k1
      exact ⟨#[], 0, hb4.trans hm, k2.1, Nat.zero_le _, k2.2.2⟩
    · simp [Maps.has]
  · refine h.sets.kept fun b hb => hk b (h.fl _ (h.mf _ (h.mb b hb))) (h.map_ne hb).1 (fun e => (h.map_ne hb).2.2 b e rfl)
  · exact List.nodup_cons.2 ⟨fun hb => hbm (h.mf _ (h.mb _ hb)), h.nd⟩
  · intro b hb
    rcases List.mem_cons.1 hb with rfl | hb
    · exact .inr (.inl rfl)
    · exact .inl (h.mb b hb)
  · rintro k (h1 | h1)
    · exact .inl (h.mf k h1)
    · exact .inr h1
  · rintro k (h1 | rfl | rfl)
    · rw [hsz]; exact Nat.lt_of_lt_of_le (h.fl k h1) hg.size
    · rw [hsz]; exact Nat.lt_of_lt_of_le hbl hg.size
    · rw [hsz]; exact hgl
  · refine ⟨h.ok.pos, h.ok.most, h.ok.ws, h.ok.us, fun p hp => ?_, fun p hp => ?_, by simp only [List.length_cons]; omega, List.Pairwise.cons (fun q hq => h.ok.ms q hq) h.ok.mo⟩
    · rcases List.mem_cons.1 hp with rfl | hp
      · intro i hi; cases hi
      · exact h.ok.ts p hp
    · rcases List.mem_cons.1 hp with rfl | hp
      · exact Nat.le_refl _
      · exact h.ok.ms p hp

set_option maxRecDepth 100000 in
set_option maxHeartbeats 1600000 in
theorem begin_any (h : Jn W M F r J) :
    Calls Try.prog 13 #[.pointer (some ⟨r, 0, none⟩)] W fun e w' => e = .returned (.tuple #[.int .i64 J.begin.2.1, .int .i64 J.begin.2.2]) ∧ Jst W M F r w' J.begin.1 := by
  have HJ := Lib.hid h
  obtain ⟨cb, cc, ps, lv, bs, h⟩ := h
  obtain ⟨lo, lc, rfl, hob⟩ := lv_len h.row
  have HN := Lib.hid h.none_any
  obtain ⟨a0, a1, a2, f0, f1, f2⟩ := three h.hr
  have hdp := h.ok.dp
  have HH := Lib.hid h
  by_cases h64 : 64 ≤ J.L.length
  · have HB : Hid (J.begin = (J, 0, 7)) := Lib.hid (by unfold JS.begin; rw [if_pos h64])
    clear h hob
    go_enter Try.func13, Try.ntmps13
    go_wp2_with fail
    refine HN.out.mono ?_
    rintro e w' ⟨rfl, rfl⟩
    go_wp2_with fail
    go_ret2
    rw [HB.out]
    exact ⟨rfl, Jst.same HJ.out (Below.refl _ _)⟩
  · have HB : Hid (J.begin = ({ J with L := (J.U.length, []) :: J.L }, (J.L.length : Int) + 1, 0)) := Lib.hid (by unfold JS.begin; rw [if_neg h64])
    have h63 : J.L.length ≤ 63 := by omega
    obtain ⟨i0, hi, hz0, hz1, hz2⟩ := info_parts Try.info73
    have hlr := lt_of_block h.hr
    have HOb := Lib.hid hob
    have hBW : Below W.heap.size W ((W.alloc (.map #[] 0)).alloc (.cells #[.pointer (hd ps), .map (some W.heap.size)] 73)).drew := (((Below.refl _ _).alloc (Nat.le_refl _) _).alloc (by simp) _).drew
    have HBW := Lib.hid hBW
    have h2 := h.below hBW
    have HR2 := Lib.hid h2.row
    have HN2 := Lib.hid (World.news_of_block (w := ((W.alloc (.map #[] 0)).alloc (.cells #[.pointer (hd ps), .map (some W.heap.size)] 73)).drew) (B := W.heap.size + 1) (cs := #[.pointer (hd ps), .map (some W.heap.size)]) (t := 73) (fr := (0, 0)) (heap_at (W.alloc (.map #[] 0)) (.cells #[.pointer (hd ps), .map (some W.heap.size)] 73) (by simp)))
    have HC2 : Hid (∀ u ∈ [Value.pointer (hd ps), Value.map (some W.heap.size)], u.oneCell' = true) := Lib.hid (by simp [Value.oneCell'])
    have HS2 : Hid (((W.alloc (.map #[] 0)).alloc (.cells #[.pointer (hd ps), .map (some W.heap.size)] 73)).drew.heap.size = W.heap.size + 2) := Lib.hid (by show (((W.alloc (.map #[] 0)).alloc _).heap.size) = _; simp)
    have HCell := Lib.hid (fun (w4 : World) (hg : ((W.alloc (.map #[] 0)).alloc (.cells #[.pointer (hd ps), .map (some W.heap.size)] 73)).drew.grownBy w4 (Value.slice lo J.L.length lc).ownBlock) =>
      (show w4.cell? ⟨r, 2, none⟩ = some (.slice lo J.L.length lc) ∧ w4.frozen? ⟨r, 2, none⟩ = false from by
        have hb := (hg.block r (lt_of_block h2.hr) (fun e => (h2.row_ne e.symm).1 rfl)).trans h2.hr
        obtain ⟨_, _, x2, _, _, y2⟩ := three hb
        exact ⟨x2, y2⟩))
    clear h2
    have hmm := @run_makeMap Try.prog
    clear h h64 hob hBW
    go_enter Try.func13, Try.ntmps13
    go_wp2_with fail
    refine HN.out.mono ?_
    rintro e w' ⟨rfl, rfl⟩
    go_wp2_with fail
    generalize hdd : J.L.length = d at *
    have HDD := Lib.hid hdd
    clear hdd
    go_region_law
      (first | (refine step_append_lrow (by rfl) _ _ _ (by rfl) 73 i0 (.agg #[.pointer none, .map none]) 2 16 Try.underlying63 hi hz0 hz1 hz2 rfl (by decide) (.slice lo d lc) d (rowOf ps J.L bs) (by rfl) HR2.out ⟨W.heap.size + 1, 0, none⟩ 1 1 [.pointer (hd ps), .map (some W.heap.size)] (by rfl) (by rfl) HN2.out HC2.out (by omega) (by simp only [maxLen]; omega) (by omega) (W.heap.size + 2) HS2.out ?_; intro g cap w4 hown4 hgrow4 hat4 hlt4; have HG4 := Lib.hid hgrow4; have HO4 := Lib.hid hown4; have HA4 := Lib.hid hat4; have HX4 := HCell.out w4 hgrow4; obtain ⟨q0, q1⟩ := HX4; clear hgrow4 hat4 hown4))
    all_goals
      have hJ5 := (HH.out.below HBW.out).opened HDD.out h63 (bm := W.heap.size) ((heap_old _ _ (by simp)).trans (heap_at W (.map #[] 0) rfl)) (fun hf => Nat.lt_irrefl _ (HH.out.fl _ hf)) HO4.out HG4.out (HA4.out.imp id fun e => e.trans HS2.out.symm) hlt4
      have hst : Stp W (w4.setCell ⟨r, 2, none⟩ (.slice (some ⟨g, 0, none⟩) (d + 1) cap)) M (fun k => M k ∨ k = W.heap.size ∨ k = g) F (fun k => F k ∨ k = W.heap.size ∨ k = g) := by
        have k1 := HG4.out
        have hgg : M g ∨ W.heap.size ≤ g := by
          rcases HA4.out with e | e
          · exact .inl (HH.out.ml _ e)
          · exact .inr (by omega)
        have k2 := Stp.of_below M F HBW.out
        have k3 : Stp ((W.alloc (.map #[] 0)).alloc (.cells #[.pointer (hd ps), .map (some W.heap.size)] 73)).drew w4 M M F F := ⟨k1.os, k1.tape, k1.output, k1.size, fun k hk hn => k1.block k hk (fun e => hn (HH.out.ml k e.symm)), fun _ h => .inl h, fun _ h => .inl h⟩
        have k4 := k2.trans (k3.trans (Stp.of_grown F (grown_set (W := w4) (r := r) (k := 2) (.slice (some ⟨g, 0, none⟩) (d + 1) cap)) HH.out.mr))
        refine ⟨k4.os, k4.tape, k4.output, k4.size, k4.block, ?_, ?_⟩
        · rintro k (h1 | rfl | rfl)
          · exact .inl h1
          · exact .inr (Nat.le_refl _)
          · exact hgg
        · rintro k (h1 | rfl | rfl)
          · exact .inl h1
          · exact .inr (Nat.le_refl _)
          · exact hgg.imp (HH.out.mf _) id
      have HJ5 := Lib.hid hJ5
      have HST := Lib.hid hst
      obtain ⟨_, _, z2, _⟩ := three hJ5.hr
      clear hJ5 hst
      generalize w4.setCell ⟨r, 2, none⟩ (.slice (some ⟨g, 0, none⟩) (d + 1) cap) = w5 at *
      go_wp2_with fail
      go_ret2
      rw [HB.out]
      exact ⟨rfl, _, _, ⟨_, _, _, _, _, HJ5.out⟩, HST.out⟩
end
end Go.Proofs.Ytkpfnonacebmkaa
