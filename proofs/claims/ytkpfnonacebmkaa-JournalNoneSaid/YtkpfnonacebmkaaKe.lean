/- journal: Keep. -/
import Derived.Test.YtkpfnonacebmkaaCp
namespace Go.Proofs.Ytkpfnonacebmkaa
open Go.RowKit

/-- Keep. -/
def JS.keep (J : JS) : JS × Int :=
  match J.L with
  | [] => (J, 11)
  | [_] => (⟨J.C, [], []⟩, 0)
  | (_, T) :: (m, T') :: L' => (⟨J.C, J.U, (m, T ++ T') :: L'⟩, 0)
section
variable {W : World} {M F : Nat → Prop} {r : Nat} {J : JS} {cb cc : Nat} {ps : List Nat}
theorem Jg.cleared {lv : Value} {bs : List Nat} (h : Jg W M F r J cb cc ps lv bs) (hL : J.L = []) : Jg (W.setCell ⟨r, 1, none⟩ (.pointer none)) M F r ⟨J.C, [], []⟩ cb cc [] lv bs := by
  have hg : W.grownBy (W.setCell ⟨r, 1, none⟩ (.pointer none)) (some r) := grown_set _
  have hk : ∀ k, k < W.heap.size → k ≠ r → (W.setCell ⟨r, 1, none⟩ (.pointer none)).heap[k]? = W.heap[k]? := fun k hk hne => hg.block k hk (fun e => hne (by cases e; rfl))
  have hsz : (W.setCell ⟨r, 1, none⟩ (.pointer none)).heap.size = W.heap.size := by simp [World.setCell]
  have hs := h.sets
  have hr := h.row
  rw [hL] at hs hr
  refine ⟨heap3_set1 h.hr _, h.cells.kept (hk cb (h.fl _ (h.mf _ h.mc)) h.r_cb.symm), trivial, ?_, ?_, h.nd, h.mr, h.mc, h.ml, h.mb, h.mf, fun k hk => by rw [hsz]; exact h.fl k hk, ?_⟩
  · exact hr.kept fun g hg => by
      obtain ⟨cur, hc⟩ := h.row.lt hg
      exact hk g (lt_of_block hc) (h.row_ne hg).1
  · exact hs.kept fun b hb => hk b (h.fl _ (h.mf _ (h.mb b hb))) (h.map_ne hb).1
  · exact ⟨h.ok.pos, h.ok.most, h.ok.ws, by simp, by simp, by simp, by simp, by simp⟩

set_option maxRecDepth 100000 in
set_option maxHeartbeats 1600000 in
theorem keep_none (h : Jn W M F r J) (hL : J.L = []) :
    Calls Try.prog 51 #[.pointer (some ⟨r, 0, none⟩)] W fun e w' => e = .returned (.int .i64 11) ∧ Below W.heap.size W w' := by
  have HC := Lib.hid (close_none h hL)
  clear h hL
  go_enter Try.func51, Try.ntmps51
  go_wp2_with fail
  refine HC.out.mono ?_
  rintro e w1 ⟨rfl, hb⟩
  have HB := Lib.hid hb
  clear hb
  go_wp2_with fail
  go_ret
  exact ⟨rfl, HB.out.alloc HB.out.size _⟩

set_option maxRecDepth 100000 in
set_option maxHeartbeats 1600000 in
theorem keep_one (h : Jn W M F r J) {m : Nat} {T : List Nat} (hL : J.L = [(m, T)]) :
    Calls Try.prog 51 #[.pointer (some ⟨r, 0, none⟩)] W fun e w' => e = .returned (.int .i64 0) ∧ Jst W M F r w' ⟨J.C, [], []⟩ := by
  obtain ⟨cb, cc, ps, lv, bs, h⟩ := h
  obtain ⟨g, lc, b, bs', rfl, rfl, _⟩ := h.top hL
  have HC := Lib.hid (close_some h hL rfl)
  clear h hL
  generalize hd (ps.drop (ps.length - m)) = pp at *
  go_enter Try.func51, Try.ntmps51
  go_wp2_with fail
  refine HC.out.mono ?_
  rintro e w1 ⟨rfl, hj, hbk, hst⟩
  have hBl := (Below.refl w1.heap.size w1).alloc (Nat.le_refl _) (.cells #[.pointer pp, .map (some b)] 73)
  have hj2 := hj.below hBl
  have HJ := Lib.hid hj2
  have HS := Lib.hid (hst.trans (Stp.of_below M F hBl))
  obtain ⟨a0, a1, a2, f0, f1, f2⟩ := three hj2.hr
  have hlr := lt_of_block hj.hr
  clear hj hbk hst hBl hj2
  go_wp2_with fail
  go_ret
  have hlr2 := hlr
  have e1 : (w1.setCell ⟨r, 1, none⟩ (.pointer none)).alloc (.cells #[.pointer pp, .map (some b)] 73) = (w1.alloc (.cells #[.pointer pp, .map (some b)] 73)).setCell ⟨r, 1, none⟩ (.pointer none) := (World.setCell_alloc_past _ _ _ _ hlr).symm
  rw [e1]
  exact ⟨rfl, M, F, ⟨_, _, _, _, _, HJ.out.cleared rfl⟩, HS.out.trans (Stp.of_grown F (grown_set _) HJ.out.mr)⟩

set_option maxRecDepth 100000 in
set_option maxHeartbeats 3200000 in
theorem keep_more (h : Jn W M F r J) {m m' : Nat} {T T' : List Nat} {L' : List (Nat × List Nat)} (hL : J.L = (m, T) :: (m', T') :: L') :
    Calls Try.prog 51 #[.pointer (some ⟨r, 0, none⟩)] W fun e w' => e = .returned (.int .i64 0) ∧ Jst W M F r w' ⟨J.C, J.U, (m', T ++ T') :: L'⟩ := by
  obtain ⟨cb, cc, ps, lv, bs, h⟩ := h
  obtain ⟨g, lc, b, bs', rfl, rfl, hT, _⟩ := h.top hL
  have HC := Lib.hid (close_some h hL rfl)
  have HND := Lib.hid (List.nodup_cons.1 h.nd).1
  have HT := Lib.hid hT
  have hdp : L'.length ≤ 62 := by have := h.ok.dp; rw [hL] at this; simp at this; omega
  have hmost := h.ok.most
  have HTs := Lib.hid (h.ok.ts (m, T) (by rw [hL]; exact List.mem_cons_self ..))
  have HBl := Lib.hid hT.lt
  clear h hL hT
  generalize hd (ps.drop (ps.length - m)) = pp at *
  go_enter Try.func51, Try.ntmps51
  go_wp2_with fail
  refine HC.out.mono ?_
  rintro e w1 ⟨rfl, hj, hbk, hst⟩
  simp only [List.length_cons] at hj
  have hBl := (Below.refl w1.heap.size w1).alloc (Nat.le_refl _) (.cells #[.pointer pp, .map (some b)] 73)
  have hj2 := hj.below hBl
  have HJ := Lib.hid hj2
  have HS := Lib.hid (hst.trans (Stp.of_below M F hBl))
  obtain ⟨x0, x1, _⟩ := two (heap_at w1 (.cells #[.pointer pp, .map (some b)] 73) rfl)
  obtain ⟨D, hD1, hD2⟩ := HT.out.kept hbk
  have hD1' := hD1.alloc (.cells #[.pointer pp, .map (some b)] 73)
  obtain ⟨g', lc', b', bs'', e1, e2, hT', hbl, ht0, ht1⟩ := hj2.top rfl
  simp only [Value.slice.injEq, Option.some.injEq, Addr.mk.injEq, and_true, true_and] at e1 e2
  obtain ⟨rfl, hjk⟩ := e1
  clear hjk
  subst e2
  obtain ⟨D2, hE1, hE2⟩ := hT'
  have hne : b' ≠ b := fun e => HND.out (e ▸ List.mem_cons_self ..)
  have hs2 := hD1'.size_le
  simp only at hs2 hE1
  have HM := Lib.hid (fun (W' : World) (hb : Below (w1.alloc (.cells #[.pointer pp, .map (some b)] 73)).heap.size (w1.alloc (.cells #[.pointer pp, .map (some b)] 73)) W') =>
    mcopy_any b' b J.C.length J.C.length D2 D W' (hE1.kept (row := none) ⟨hb.os, hb.tape, hb.output, hb.size, fun k hk _ => hb.block k hk⟩ (by simp)) (hD1'.kept (row := none) ⟨hb.os, hb.tape, hb.output, hb.size, fun k hk _ => hb.block k hk⟩ (by simp)) hne (by simp only [maxLen]; omega))
  have HD2 := Lib.hid (And.intro hD2 hE2)
  have HTs2 := Lib.hid (hj2.ok.ts (m', T') (List.mem_cons_self ..))
  obtain ⟨a0, a1, a2, f0, f1, f2⟩ := three hj2.hr
  generalize hd0 : L'.length = d at *
  have HD0 := Lib.hid hd0
  have hsub : IntKind.i64.wrap (d : Int) = d := IntWalk.i64_in _ (by omega)
  have hd1 : (0 : Int) ≤ d := by omega
  have hd2 : d < d + 1 := by omega
  have hd3 : (d : Int) < (d : Int) + 1 := by omega
  clear hj hbk hst hBl hj2 hD1 hD1' hD2 hE1 hE2 hs2 ht0 hbl hd0 hne HT
  go_wp2_with fail
  generalize w1.alloc (.cells #[.pointer pp, .map (some b)] 73) = w2 at *
  go_still_tail 11, (by kernel_rfl)
  change wpList _ _ _ _ _ w2.drew
  go_wp2_with fail
  refine (HM.out w2.drew ((Below.refl _ _).drew)).mono ?_
  rintro e w3 ⟨rfl, ⟨Dout, ho, hh⟩, hg⟩
  have hh2 : ∀ x : Int, Maps.has Dout (.int .i64 x) = true ↔ ∃ t ∈ T ++ T', (t : Int) = x := fun x => by
    rw [hh, Bool.or_eq_true, HD2.out.1, HD2.out.2]
    constructor
    · rintro (⟨t, h1, h2⟩ | ⟨t, h1, h2⟩)
      · exact ⟨t, List.mem_append_right _ h1, h2⟩
      · exact ⟨t, List.mem_append_left _ h1, h2⟩
    · rintro ⟨t, h1, h2⟩
      rcases List.mem_append.1 h1 with h1 | h1
      · exact .inr ⟨t, h1, h2⟩
      · exact .inl ⟨t, h1, h2⟩
  have hts : ∀ t ∈ T ++ T', t < J.C.length := fun t ht => by
    rcases List.mem_append.1 ht with h1 | h1
    · exact HTs.out t h1
    · exact HTs2.out t h1
  have hj3 := (HJ.out.below ((Below.refl _ _).drew)).touch (T' := T ++ T') rfl rfl hg ⟨Dout, ownsMap_tight ho (fun x hx => by
    obtain ⟨t, ht, rfl⟩ := (hh2 x).1 hx
    have := hts t ht
    exact ⟨by omega, by simp only; omega⟩), hh2⟩ hts
  have HJ3 := Lib.hid hj3
  have HS3 := Lib.hid (HS.out.trans ((Stp.of_below M F ((Below.refl _ w2).drew)).trans (Stp.of_grown F hg (HJ.out.mb _ (List.mem_cons_self ..)))))
  clear ho hh hh2 hts hj3 hg
  go_wp2_with fail
  go_ret
  exact ⟨rfl, M, F, ⟨_, _, _, _, _, HJ3.out⟩, HS3.out⟩

theorem keep_any (h : Jn W M F r J) :
    Calls Try.prog 51 #[.pointer (some ⟨r, 0, none⟩)] W fun e w' => e = .returned (.int .i64 J.keep.2) ∧ Jst W M F r w' J.keep.1 := by
  rcases hL : J.L with _ | ⟨⟨m, T⟩, _ | ⟨⟨m', T'⟩, L'⟩⟩
  · have e : J.keep = (J, 11) := by unfold JS.keep; rw [hL]
    rw [e]
    exact (keep_none h hL).mono fun e w' ⟨h1, h2⟩ => ⟨h1, Jst.same h h2⟩
  · have e : J.keep = (⟨J.C, [], []⟩, 0) := by unfold JS.keep; rw [hL]
    rw [e]
    exact keep_one h hL
  · have e : J.keep = (⟨J.C, J.U, (m', T ++ T') :: L'⟩, 0) := by unfold JS.keep; rw [hL]
    rw [e]
    exact keep_more h hL
end
end Go.Proofs.Ytkpfnonacebmkaa
