/- journal: put. -/
import Derived.Test.YtkpfnonacebmkaaMay
import Derived.Test.YtkpfnonacebmkaaJu
import Derived.StillTailTactics
import Derived.Deep.Cut
import Derived.IntWalk
import Derived.RegionTactic
import Derived.BigRegion
namespace Go.Proofs.Ytkpfnonacebmkaa
open Go.RowKit

set_option maxRecDepth 100000 in
set_option maxHeartbeats 1600000 in
theorem put_none {W : World} {M F : Nat → Prop} {r : Nat} {J : JS} (h : Jn W M F r J) {i : Nat} (hi : i < J.C.length) {n : Int} (hn : W64 n) (hL : J.L = []) :
    Calls Try.prog 54 #[.pointer (some ⟨r, 0, none⟩), .int .i64 i, .int .u64 n] W fun e w' => e = .returned (.tuple #[]) ∧ Jst W M F r w' (J.put i n) := by
  obtain ⟨cb, cc, ps, lv, bs, h⟩ := h
  obtain ⟨lo, lc, rfl, _⟩ := lv_len h.row
  have HB := Lib.hid ((Below.refl W.heap.size W).alloc (Nat.le_refl _) (.cells #[.int .i64 i] 3))
  have h1 := h.below HB.out
  have hb1 := (one (heap_at W (.cells #[.int .i64 i] 3) rfl)).1
  obtain ⟨a0, a1, a2, f0, f1, f2⟩ := three h.hr
  obtain ⟨b0, b1, b2, _⟩ := three h1.hr
  rw [hL] at a2 b2
  obtain ⟨c0, g0⟩ := h1.cells.cell hi
  have hlm : J.C.length ≤ 4096 := h.ok.most
  have HH := Lib.hid h1
  have HL := Lib.hid hL
  have HI := Lib.hid (And.intro hi hn)
  generalize J.C.getD i 0 = x at c0
  clear h hL h1 hn
  go_enter Try.func54, Try.ntmps54
  go_wp2_with fail
  generalize W.alloc (.cells #[.int .i64 i] 3) = w1 at *
  go_still_tail 7, (by kernel_rfl)
  change wpList _ _ _ _ _ w1.drew
  go_wp2_with fail
  go_end0
  refine ⟨rfl, M, F, ?_, ?_⟩
  · have := (HH.out.setC HI.out.1 HI.out.2).below ((Below.refl _ _).drew)
    unfold JS.put
    rw [HL.out]
    exact ⟨_, _, _, _, _, show Jg _ M F r ⟨J.C.set i n, J.U, []⟩ _ _ _ _ _ from by rw [← HL.out]; exact this⟩
  · exact (Stp.of_below M F HB.out).trans ((Stp.of_grown F (grown_set _) HH.out.mc).trans (Stp.of_below M F ((Below.refl _ _).drew)))

/-- The walk's view of a journal with an open level. -/
theorem rowOf_top {ps : List Nat} {m : Nat} {T : List Nat} {L : List (Nat × List Nat)} {b : Nat} {bs : List Nat} (hl : bs.length = L.length) :
    (rowOf ps ((m, T) :: L) (b :: bs))[L.length * 2]? = some (.pointer (hd (ps.drop (ps.length - m)))) ∧ (rowOf ps ((m, T) :: L) (b :: bs))[L.length * 2 + 1]? = some (.map (some b)) := by
  have h := rowOf_length (ps := ps) hl
  rw [rowOf]
  constructor
  · rw [List.getElem?_append_right (by omega)]; simp [h]
  · rw [List.getElem?_append_right (by omega)]; simp [h]
theorem LRow.at {w : World} {e : TypeId} {size g c n : Nat} {xs : List Value} (h : LRow w e size (.slice (some ⟨g, 0, none⟩) n c) n xs) {j : Nat} {u : Value} (hu : xs[j]? = some u) : w.cell? ⟨g, j, none⟩ = some u := by
  have := h.cells (g := g) rfl j u hu
  rwa [add_lit, Nat.zero_add] at this

theorem i64_wf {i : Nat} (h : i ≤ 4096) : (Lit.int .i64 i).wf = true := by
  have e1 : IntKind.i64.min = -9223372036854775808 := by decide
  have e2 : IntKind.i64.max = 9223372036854775807 := by decide
  simp only [Lit.wf, e1, e2, Bool.and_eq_true, decide_eq_true_eq]
  omega
/-- The top of a journal with an open level. -/
theorem Jg.top {W : World} {M F : Nat → Prop} {r : Nat} {J : JS} {cb cc : Nat} {ps : List Nat} {lv : Value} {bs : List Nat} (h : Jg W M F r J cb cc ps lv bs) {m : Nat} {T : List Nat} {L' : List (Nat × List Nat)} (hL : J.L = (m, T) :: L') :
    ∃ g lc b bs', lv = .slice (some ⟨g, 0, none⟩) (L'.length + 1) lc ∧ bs = b :: bs' ∧ TSet W b J.C.length T ∧ bs'.length = L'.length ∧
      W.cell? ⟨g, L'.length * 2, none⟩ = some (.pointer (hd (ps.drop (ps.length - m)))) ∧ W.cell? ⟨g, L'.length * 2 + 1, none⟩ = some (.map (some b)) := by
  have hs := h.sets
  have hr := h.row
  rw [hL] at hs hr
  cases bs with
  | nil => exact absurd hs (by simp [Sets])
  | cons b bs' =>
    have hl := hs.2.length
    have ht := rowOf_top (ps := ps) (m := m) (T := T) (b := b) hl
    rcases hr.2 with ⟨_, h0⟩ | ⟨g, cap, cur, rfl, _⟩
    · simp at h0
    · exact ⟨g, cap, b, bs', rfl, rfl, hs.1, hl, hr.at ht.1, hr.at ht.2⟩
theorem TSet.put {W : World} {b N : Nat} {T : List Nat} {D : DataW Unit} (h1 : W.ownsMap Try.prog 3 unitElem b N D) (h2 : ∀ x : Int, Maps.has D (.int .i64 x) = true ↔ ∃ t ∈ T, (t : Int) = x) {i : Nat} (hi : i < N) (hT : ∀ t ∈ T, t < N) {W' : World} (h3 : W'.ownsMap Try.prog 3 unitElem b (N + 1) (D.put (.int .i64 i) (.agg []))) : TSet W' b N (i :: T) := by
  have hk : ∀ x : Int, Maps.has (D.put (.int .i64 i) (.agg [])) (.int .i64 x) = true ↔ ∃ t ∈ i :: T, (t : Int) = x := fun x => by
    by_cases hx : x = i
    · subst hx
      rw [Maps.has_put_same h1.isMap (by simp [WideAt.IsKeyLit])]
      simp
    · rw [Maps.has_put_other (by simpa using hx), h2]
      constructor
      · rintro ⟨t, ht, rfl⟩; exact ⟨t, List.mem_cons_of_mem _ ht, rfl⟩
      · rintro ⟨t, ht, rfl⟩
        rcases List.mem_cons.1 ht with rfl | ht
        · exact absurd rfl hx
        · exact ⟨t, ht, rfl⟩
  refine ⟨_, ownsMap_tight h3 fun x hx => ?_, hk⟩
  obtain ⟨t, ht, rfl⟩ := (hk x).1 hx
  rcases List.mem_cons.1 ht with rfl | ht
  · omega
  · have := hT t ht; omega

set_option maxRecDepth 100000 in
set_option maxHeartbeats 3200000 in
theorem put_some {W : World} {M F : Nat → Prop} {r : Nat} {J : JS} (h : Jn W M F r J) {i : Nat} (hi : i < J.C.length) {n : Int} (hn : W64 n) {m : Nat} {T : List Nat} {L' : List (Nat × List Nat)} (hL : J.L = (m, T) :: L') :
    Calls Try.prog 54 #[.pointer (some ⟨r, 0, none⟩), .int .i64 i, .int .u64 n] W fun e w' => e = .returned (.tuple #[]) ∧ Jst W M F r w' (J.put i n) := by
  obtain ⟨cb, cc, ps, lv, bs, h⟩ := h
  obtain ⟨g, lc, b, bs', rfl, rfl, _⟩ := h.top hL
  have HB := Lib.hid ((Below.refl W.heap.size W).alloc (Nat.le_refl _) (.cells #[.int .i64 i] 3))
  have h1 := h.below HB.out
  have hb1 := (one (heap_at W (.cells #[.int .i64 i] 3) rfl)).1
  obtain ⟨a0, a1, a2, f0, f1, f2⟩ := three h.hr
  obtain ⟨b0, b1, b2, _⟩ := three h1.hr
  obtain ⟨c0, g0⟩ := h1.cells.cell hi
  have hlm : J.C.length ≤ 4096 := h.ok.most
  have hdp : L'.length ≤ 64 := by have := h.ok.dp; rw [hL] at this; simp at this; omega
  have HH := Lib.hid h1
  have HL := Lib.hid hL
  have HI := Lib.hid (And.intro hi hn)
  have hib := Lib.hid (heap_at W (.cells #[.int .i64 i] 3) rfl)
  have hlr := lt_of_block h1.hr
  have hlc := h1.fl _ (h1.mf _ h1.mc)
  have hlb := lt_of_block hib.out
  have HMF := Lib.hid (fun k hk => h.fl k (h.mf k hk))
  have hw64 := h.ok.ws.at hi
  generalize hx : J.C.getD i 0 = x at *
  have HX := Lib.hid (And.intro hx hw64)
  clear h hL h1 hn hx hw64
  go_enter Try.func54, Try.ntmps54
  go_wp2_with fail
  have hs1 := Lib.hid (show (W.alloc (.cells #[.int .i64 i] 3)).heap.size = W.heap.size + 1 by simp)
  generalize W.alloc (.cells #[.int .i64 i] 3) = w1 at *
  go_region
  have h2 := Lib.hid ((HH.out.below ((Below.refl _ _).alloc (Nat.le_refl _) (.cells #[.int .u64 x] 33))).below ((Below.refl _ _).drew))
  have hb2 := Lib.hid (((Below.refl w1.heap.size w1).alloc (Nat.le_refl _) (.cells #[.int .u64 x] 33)).drew)
  have hob := Lib.hid (show (w1.alloc (.cells #[.int .u64 x] 33)).drew.heap[w1.heap.size]? = _ from heap_at w1 (.cells #[.int .u64 x] 33) rfl)
  have hs2 := Lib.hid (show (w1.alloc (.cells #[.int .u64 x] 33)).drew.heap.size = w1.heap.size + 1 from by show (w1.alloc _).heap.size = _; simp)
  generalize (w1.alloc (.cells #[.int .u64 x] 33)).drew = w2 at *
  obtain ⟨b0, b1, b2, f0, f1, f2⟩ := three h2.out.hr
  have hlr := lt_of_block h2.out.hr
  clear c0 g0 hb1
  go_wp2_with fail
  have hsw : (w2.setCell ⟨r, 1, none⟩ (.pointer (some ⟨w2.heap.size, 0, none⟩))).alloc (.cells #[fnv w1.heap.size W.heap.size, .pointer (hd ps)] 93) = (w2.alloc (.cells #[fnv w1.heap.size W.heap.size, .pointer (hd ps)] 93)).setCell ⟨r, 1, none⟩ (.pointer (some ⟨w2.heap.size, 0, none⟩)) :=
    (World.setCell_alloc_past _ _ _ _ hlr).symm
  have hz3 := Lib.hid (show ((w2.alloc (.cells #[fnv w1.heap.size W.heap.size, .pointer (hd ps)] 93)).setCell ⟨r, 1, none⟩ (.pointer (some ⟨w2.heap.size, 0, none⟩))).heap.size = w2.heap.size + 1 by simp [World.setCell])
  have h3 : Jg ((w2.alloc (.cells #[fnv w1.heap.size W.heap.size, .pointer (hd ps)] 93)).setCell ⟨r, 1, none⟩ (.pointer (some ⟨w2.heap.size, 0, none⟩))) M (fun k => F k ∨ (W.heap.size ≤ k ∧ k < w2.heap.size + 1)) r { J with U := (i, x) :: J.U } cb cc (w2.heap.size :: ps) (.slice (some ⟨g, 0, none⟩) (L'.length + 1) lc) (b :: bs') := by
    have hh := h2.out.below ((Below.refl _ _).alloc (Nat.le_refl _) (.cells #[fnv w1.heap.size W.heap.size, .pointer (hd ps)] 93))
    have e1 := hs1.out
    have e2 := hs2.out
    have hM : ∀ k, W.heap.size ≤ k → ¬ M k := fun k hk hm => by have := HMF.out k hm; omega
    have hib2 := (hb2.out.block _ hlb).trans hib.out
    refine hh.push (ib := W.heap.size) (ob := w1.heap.size) (heap_at _ _ rfl) ((heap_old _ _ (by omega)).trans hib2) ((heap_old _ _ (by omega)).trans hob.out) (fun k hk => .inl hk) ?_ ⟨.inr ⟨by omega, by omega⟩, hM _ (by omega)⟩ ⟨.inr ⟨by omega, by omega⟩, hM _ (by omega)⟩ ⟨.inr ⟨by omega, by omega⟩, hM _ (by omega)⟩ (fun q hq => h2.out.chain.lt q hq) HI.out.1 HX.out.2
    intro k hk
    rcases hk with hk | hk
    · exact hh.fl k hk
    · simp; omega
  have H3 := Lib.hid h3
  have HB3 := Lib.hid (((HB.out.trans (hb2.out.mono (by have := hs1.out; omega))).alloc (by have := hs1.out; have := hs2.out; omega) (.cells #[fnv w1.heap.size W.heap.size, .pointer (hd ps)] 93)))
  have hib3 : ((w2.alloc (.cells #[fnv w1.heap.size W.heap.size, .pointer (hd ps)] 93)).setCell ⟨r, 1, none⟩ (.pointer (some ⟨w2.heap.size, 0, none⟩))).heap[W.heap.size]? = some (.cells #[.int .i64 i] 3 (0, 0)) := by
    have hne : r ≠ W.heap.size := fun e => by have := HMF.out r HH.out.mr; omega
    rw [Below.heap_setCell _ _ _ _ (Ne.symm hne)]
    exact (heap_old _ _ (by have := hs2.out; omega)).trans ((hb2.out.block _ hlb).trans hib.out)
  have hst3 := Lib.hid (Stp.of_grown (W := w2.alloc (.cells #[fnv w1.heap.size W.heap.size, .pointer (hd ps)] 93)) (M := M) F (grown_set (r := r) (k := 1) (.pointer (some ⟨w2.heap.size, 0, none⟩))) HH.out.mr)
  change Code.wp _ _ _ _ ((w2.setCell ⟨r, 1, none⟩ (.pointer (some ⟨w2.heap.size, 0, none⟩))).alloc (.cells #[fnv w1.heap.size W.heap.size, .pointer (hd ps)] 93))
  rw [hsw]
  have HS3 := Lib.hid (show Stp W ((w2.alloc (.cells #[fnv w1.heap.size W.heap.size, .pointer (hd ps)] 93)).setCell ⟨r, 1, none⟩ (.pointer (some ⟨w2.heap.size, 0, none⟩))) M M F (fun k => F k ∨ (W.heap.size ≤ k ∧ k < w2.heap.size + 1)) from by
    have := (Stp.of_below M F HB3.out).trans hst3.out
    exact ⟨this.os, this.tape, this.output, this.size, this.block, this.mm, fun k hk => hk.imp id fun h => h.1⟩)
  generalize (w2.alloc (.cells #[fnv w1.heap.size W.heap.size, .pointer (hd ps)] 93)).setCell ⟨r, 1, none⟩ (.pointer (some ⟨w2.heap.size, 0, none⟩)) = w3 at *
  obtain ⟨g', lc', b', bs'', hE1, hE2, hT, _, _, hm⟩ := H3.out.top (show (⟨J.C, (i, x) :: J.U, J.L⟩ : JS).L = (m, T) :: L' from HL.out)
  simp only [Value.slice.injEq, Option.some.injEq, Addr.mk.injEq, and_true, true_and, List.cons.injEq] at hE1 hE2
  obtain ⟨rfl, rfl⟩ := hE1
  obtain ⟨rfl, rfl⟩ := hE2
  obtain ⟨b0, b1, b2, f0, f1, f2⟩ := three H3.out.hr
  have hb3 := (one hib3).1
  obtain ⟨D, hD1, hD2⟩ := hT
  have hin := Lib.hid hD2
  have hown := Lib.hid hD1
  have HIB := Lib.hid hib3
  clear h3 hib3 hD1 hD2 hsw
  generalize hd0 : L'.length = d at *
  have HD0 := Lib.hid hd0
  have hsub : IntKind.i64.wrap (d : Int) = d := IntWalk.i64_in _ (by omega)
  have hd1 : (0 : Int) ≤ d := by omega
  have hd2 : d < d + 1 := by omega
  have hd3 : (d : Int) < (d : Int) + 1 := by omega
  clear hd0
  have hkey : keyOf Try.prog 3 (.int .i64 (i : Int)) = some (.int .i64 i) := Maps.keyOf_int_mk Try.underlying3 (i64_wf (by omega))
  go_still_tail 11, (by kernel_rfl)
  change wpList _ _ _ _ _ w3.drew
  go_wp2_with (first | (at_mapUpdate; refine wpList_mapUpdate_own _ rfl _ _ _ 71 rfl 3 88 (Maps.int_keyed Try.underlying3) Try.underlying71 unitElem b J.C.length D rfl hown.out.drew (by simp only [maxLen]; omega) (.int .i64 i) (.agg #[]) (.int .i64 i) rfl rfl hkey (.agg []) [] unitElem_mk ?_; intro w4 hown4 hgrow4; have HO4 := Lib.hid hown4; have HG4 := Lib.hid hgrow4; clear hown4 hgrow4))
  have hts : ∀ t ∈ T, t < J.C.length := fun t ht => H3.out.ok.ts (m, T) (by show (m, T) ∈ J.L; rw [HL.out]; exact List.mem_cons_self ..) t ht
  have h4 := (H3.out.below ((Below.refl _ _).drew)).touch (show (⟨J.C, (i, x) :: J.U, J.L⟩ : JS).L = (m, T) :: L' from HL.out) rfl HG4.out (TSet.put hown.out.drew hin.out hi hts HO4.out) (fun t ht => by
    rcases List.mem_cons.1 ht with rfl | ht
    · exact hi
    · exact hts t ht)
  have H4 := Lib.hid h4
  have hmb := Lib.hid (H3.out.mb b (List.mem_cons_self ..))
  have hnb : W.heap.size ≠ b := fun e => by have := HMF.out b hmb.out; omega
  have hib4 := (HG4.out.block W.heap.size (lt_of_block HIB.out) (fun e => hnb (by cases e; rfl))).trans HIB.out
  have hb4 := (one hib4).1
  obtain ⟨b0, b1, b2, _⟩ := three h4.hr
  obtain ⟨c0, g0⟩ := h4.cells.cell hi
  generalize J.C.getD i 0 = x' at c0
  have HMB := Lib.hid (show Stp W w4 M M F (fun k => F k ∨ W.heap.size ≤ k ∧ k < w2.heap.size + 1) from HS3.out.trans ((Stp.of_below M _ ((Below.refl _ _).drew)).trans (Stp.of_grown _ HG4.out hmb.out)))
  clear hts h4 hib4 hm hnb
  go_still_tail 7, (by kernel_rfl)
  change wpList _ _ _ _ _ w4.drew
  go_wp2_with fail
  go_end0
  refine ⟨rfl, M, _, ?_, HMB.out.trans ((Stp.of_grown _ (grown_set _) H4.out.mc).trans (Stp.of_below M _ ((Below.refl _ _).drew)))⟩
  have := (H4.out.setC HI.out.1 HI.out.2).below ((Below.refl _ _).drew)
  have hJ : J.put i n = ⟨J.C.set i n, (i, x) :: J.U, (m, i :: T) :: L'⟩ := by
    unfold JS.put
    rw [HL.out, HX.out.1, if_neg (by simp)]
    rfl
  rw [hJ]
  exact ⟨_, _, _, _, _, this⟩
end Go.Proofs.Ytkpfnonacebmkaa
