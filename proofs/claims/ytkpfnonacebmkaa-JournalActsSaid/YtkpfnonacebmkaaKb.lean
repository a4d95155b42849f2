/- The document's journal: Set. -/
import Derived.Test.YtkpfnonacebmkaaKa
namespace Go.Proofs.Ytkpfnonacebmkaa
open Go.RowKit

theorem Try.info3 : (Try.prog.info? 3).map (fun i => (i.zero, i.size, i.bytes)) = some (some (.int .i64 0), 1, 8) := by kernel_rfl
section
variable {W : World} {F : Nat → Prop} {r : Nat} {K : KS}
set_option maxRecDepth 100000 in
set_option maxHeartbeats 800000 in
theorem kSet_far (h : Kn W F r K) {i : Int} (n : Int) (hi : inB K.C.length i = false) :
    Calls Try.prog 43 #[.pointer (some ⟨r, 0, none⟩), .int .i64 i, .int .u64 n] W fun e w' => e = .returned (.int .i64 3) ∧ W = w' := by
  obtain ⟨cb, cc, lv, ws, h⟩ := h
  have HN := kNone_any h.hr i
  rw [hi] at HN
  have HN := Lib.hid HN
  clear h hi
  go_enter Try.func43, Try.ntmps43
  go_wp2_with fail
  refine HN.out.mono ?_
  rintro e w' ⟨rfl, rfl⟩
  go_wp2_with fail
  go_ret
  exact ⟨rfl, rfl⟩
set_option maxRecDepth 100000 in
set_option maxHeartbeats 800000 in
theorem kSet_none (h : Kn W F r K) {i : Nat} (hi : i < K.C.length) {n : Int} (hn : W64 n) (hL : K.L = []) :
    Calls Try.prog 43 #[.pointer (some ⟨r, 0, none⟩), .int .i64 i, .int .u64 n] W fun e w' => e = .returned (.int .i64 0) ∧ Kst W F r w' (K.put i n) := by
  obtain ⟨cb, cc, lv, ws, h⟩ := h
  obtain ⟨lo, lc, rfl, _⟩ := lv_len h.row
  have HN := kNone_any h.hr i
  rw [inB_mk (by omega) (by omega)] at HN
  have HN := Lib.hid HN
  obtain ⟨a0, a1, _⟩ := two h.hr
  rw [hL] at a1
  obtain ⟨c0, g0⟩ := h.cells.cell hi
  have hlm : K.C.length ≤ 4096 := h.ok.most
  have hrc := h.r_cb
  have HP := Lib.hid (h.setC hi hn)
  have HS := Lib.hid (Stp.of_grown (M := F) F (grown_set (W := W) (r := cb) (k := i) (.int .u64 n)) h.mc)
  have HE : Hid (K.put i n = { K with C := K.C.set i n }) := Lib.hid (by unfold KS.put; rw [hL]; rfl)
  generalize K.C.getD i 0 = x at c0
  clear h hL hn
  go_enter Try.func43, Try.ntmps43
  go_wp2_with fail
  refine HN.out.mono ?_
  rintro e w' ⟨rfl, rfl⟩
  go_wp2_with fail
  go_ret
  rw [HE.out]
  exact ⟨rfl, F, ⟨_, _, _, _, HP.out⟩, HS.out⟩

set_option maxRecDepth 100000 in
set_option maxHeartbeats 3200000 in
theorem kSet_some (h : Kn W F r K) {i : Nat} (hi : i < K.C.length) {n : Int} (hn : W64 n) {w S : List Int} {L' : List (List Int × List Int)} (hL : K.L = (w, S) :: L') (ht : S.length ≤ 1000000) :
    Calls Try.prog 43 #[.pointer (some ⟨r, 0, none⟩), .int .i64 i, .int .u64 n] W fun e w' => e = .returned (.int .i64 0) ∧ Kst W F r w' (K.put i n) := by
  obtain ⟨cb, cc, lv, ws, h⟩ := h
  have HN := kNone_any h.hr i
  rw [inB_mk (by omega) (by omega)] at HN
  have HN := Lib.hid HN
  obtain ⟨g, lc, b, c, sv, ws', rfl, hlc, rfl, _⟩ := h.top hL
  obtain ⟨a0, a1, _⟩ := two h.hr
  obtain ⟨c0, g0⟩ := h.cells.cell hi
  have hlm : K.C.length ≤ 4096 := h.ok.most
  have hdp : L'.length ≤ 63 := by have := h.ok.dp; rw [hL] at this; simp at this; omega
  have hrc := h.r_cb
  have hP := h.setC hi hn
  obtain ⟨g', lc', b', c', sv', ws'', e1, _, e2, hl', hO, hS, t0, t1⟩ := hP.top (show (⟨K.C.set i n, K.L⟩ : KS).L = (w, S) :: L' from hL)
  simp only [Value.slice.injEq, Option.some.injEq, Addr.mk.injEq, and_true, true_and, List.cons.injEq, Prod.mk.injEq] at e1 e2
  obtain ⟨rfl, rfl⟩ := e1
  obtain ⟨⟨rfl, rfl, rfl⟩, rfl⟩ := e2
  obtain ⟨so, sc, rfl, hso⟩ := lv_len hS
  have HS := Lib.hid (Stp.of_grown (M := F) F (grown_set (W := W) (r := cb) (k := i) (.int .u64 n)) h.mc)
  have HP := Lib.hid hP
  have HL := Lib.hid hL
  obtain ⟨b0, b1, f0, f1⟩ := two hP.hr
  generalize K.C.getD i 0 = x at c0
  simp only [List.length_set] at b0
  have hfrz : (W.setCell ⟨cb, i, none⟩ (.int .u64 n)).frozen? ⟨g, L'.length * 2 + 1, none⟩ = false := by
    obtain ⟨cur, hc⟩ := hP.row.lt (g := g) rfl
    simp [World.frozen?, hc]
  have HO := Lib.hid (And.intro hl' hS)
  clear h hL hn hP hO hS hl'
  obtain ⟨i0, hi0, hz0, hz1, hz2⟩ := info_parts Try.info3
  generalize hdd : L'.length = d at *
  have HD := Lib.hid hdd
  clear hdd
  go_enter Try.func43, Try.ntmps43
  go_wp2_with fail
  refine HN.out.mono ?_
  rintro e w' ⟨rfl, rfl⟩
  go_wp2_with fail
  generalize W.setCell ⟨cb, i, none⟩ (.int .u64 n) = W1 at *
  have HB := Lib.hid (((Below.refl W1.heap.size W1).alloc (Nat.le_refl _) (.cells #[.int .i64 i] 3)).drew)
  have hP2 := HP.out.below HB.out
  have HR2 := Lib.hid (show LRow (W1.alloc (.cells #[.int .i64 i] 3)).drew 3 1 (.slice so S.length sc) S.length (S.map (Value.int .i64)) from
    (hP2.at' 0 w S b c _ (by show K.L[0]? = _; rw [HL.out]; rfl) rfl).2)
  have HN2 := Lib.hid (World.news_of_block (w := (W1.alloc (.cells #[.int .i64 i] 3)).drew) (B := W1.heap.size) (cs := #[.int .i64 i]) (t := 3) (fr := (0, 0)) (heap_at W1 (.cells #[.int .i64 i] 3) rfl))
  have HC2 : Hid (∀ u ∈ [Value.int .i64 (i : Int)], u.oneCell' = true) := Lib.hid (by simp [Value.oneCell'])
  have HS2 : Hid ((W1.alloc (.cells #[.int .i64 i] 3)).drew.heap.size = W1.heap.size + 1) := Lib.hid (by show (W1.alloc _).heap.size = _; simp)
  have HCell := Lib.hid (fun (w4 : World) (hg : (W1.alloc (.cells #[.int .i64 i] 3)).drew.grownBy w4 (Value.slice so S.length sc).ownBlock) =>
    (show w4.cell? ⟨g, d * 2 + 1, none⟩ = some (.slice so S.length sc) ∧ w4.frozen? ⟨g, d * 2 + 1, none⟩ = false ∧ w4.cell? ⟨r, 1, none⟩ = some (.slice (some ⟨g, 0, none⟩) (d + 1) lc) from by
      obtain ⟨cur, hc⟩ := hP2.row.lt (g := g) rfl
      have hb := (hg.block g (lt_of_block hc) (fun e => (hP2.set_ne (p := 0) rfl e.symm).2.2.1 g rfl rfl)).trans hc
      have hb1 := (heap_old W1 (.cells #[.int .i64 i] 3) (by have := HP.out.fl _ (HP.out.ml g rfl); exact this)).symm.trans hc
      have hr1 := (hg.block r (lt_of_block hP2.hr) (fun e => (hP2.set_ne (p := 0) rfl e.symm).1 rfl)).trans hP2.hr
      refine ⟨?_, ?_, (two hr1).2.1⟩
      · rw [← t1]; simp only [World.cell?, hb, hb1]
      · simp [World.frozen?, hb]))
  clear hP2
  have hgl : g < W1.heap.size := HP.out.fl _ (HP.out.ml g rfl)
  have hrl : r < W1.heap.size := HP.out.fl _ HP.out.mr
  have hd1 : (0 : Int) ≤ d := by omega
  have hd2 : d < d + 1 := by omega
  have hd3 : (d : Int) < (d : Int) + 1 := by omega
  go_region_law
    (first | (refine step_append_lrow (by rfl) _ _ _ (by rfl) 3 i0 (.int .i64 0) 1 8 Try.underlying54 hi0 hz0 hz1 hz2 rfl (by decide) (.slice so S.length sc) S.length (S.map (Value.int .i64)) (by rfl) HR2.out ⟨W1.heap.size, 0, none⟩ 1 1 [.int .i64 i] (by rfl) (by rfl) HN2.out HC2.out (by omega) (by simp only [maxLen]; omega) (by omega) (W1.heap.size + 1) HS2.out ?_; intro g2 cap w4 hown4 hgrow4 hat4 hlt4; have HG4 := Lib.hid hgrow4; have HO4 := Lib.hid hown4; have HA4 := Lib.hid hat4; have HX4 := HCell.out w4 hgrow4; obtain ⟨q0, q1, q2⟩ := HX4; clear hgrow4 hat4 hown4))
  all_goals
    have hK := HP.out.touch HL.out HD.out HB.out HS2.out HG4.out HO4.out HA4.out hlt4
    have HK := Lib.hid (show Kst W F r (w4.setCell ⟨g, d * 2 + 1, none⟩ (.slice (some ⟨g2, 0, none⟩) (S.length + 1) cap)) (K.put i n) from by
      have e : K.put i n = ⟨K.C.set i n, (w, S ++ [(i : Int)]) :: L'⟩ := by unfold KS.put; rw [HL.out]; rfl
      rw [e]
      exact Kst.trans HS.out hK)
    clear hK
    generalize w4.setCell ⟨g, d * 2 + 1, none⟩ (.slice (some ⟨g2, 0, none⟩) (S.length + 1) cap) = w5 at *
    go_wp2_with fail
    go_ret
    exact ⟨rfl, HK.out⟩
theorem kSet_any (h : Kn W F r K) (i : Int) {n : Int} (hn : W64 n) (ht : K.tot ≤ 1000000) :
    Calls Try.prog 43 #[.pointer (some ⟨r, 0, none⟩), .int .i64 i, .int .u64 n] W fun e w' => e = .returned (.int .i64 (K.set i n).2) ∧ Kst W F r w' (K.set i n).1 := by
  unfold KS.set
  by_cases hi : inB K.C.length i = true
  · rw [if_pos hi]
    obtain ⟨x0, x1⟩ := inB_of hi
    obtain ⟨k, rfl⟩ : ∃ k : Nat, i = k := ⟨i.toNat, by omega⟩
    rw [Int.toNat_natCast]
    have hk : k < K.C.length := by omega
    cases hL : K.L with
    | nil => exact kSet_none h hk hn hL
    | cons p L' =>
      obtain ⟨w, S⟩ := p
      exact kSet_some h hk hn hL (by unfold KS.tot at ht; rw [hL] at ht; simp at ht; omega)
  · rw [if_neg hi]
    rw [Bool.not_eq_true] at hi
    exact (kSet_far h n hi).mono fun e w' ⟨h1, h2⟩ => ⟨h1, Kst.same h (h2 ▸ Below.refl _ _)⟩
end
end Go.Proofs.Ytkpfnonacebmkaa
