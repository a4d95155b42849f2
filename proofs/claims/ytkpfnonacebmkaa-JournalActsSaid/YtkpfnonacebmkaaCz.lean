/- journal: Copy: the walk. -/
import Derived.Test.YtkpfnonacebmkaaCy
namespace Go.Proofs.Ytkpfnonacebmkaa
open Go.RowKit

section
variable {W : World} {M F : Nat → Prop} {r : Nat} {J : JS}
/-- The copy, so far: the lowest i levels. -/
structure CyG (W : World) (M F : Nat → Prop) (J : JS) (rc cb' cc' : Nat) (ps : List Nat) (n i : Nat) (M' F' : Nat → Prop) (lv : Value) (bs : List Nat) (wr : World) : Prop where
  j : Jg wr M' F' rc { J with L := J.L.drop (n - i) } cb' cc' ps lv bs
  m : ∀ k, M' k → W.heap.size ≤ k
  f : ∀ k, F' k → (F k ∧ ¬ M k) ∨ W.heap.size ≤ k
  b : Below W.heap.size W wr
def CyR (W : World) (M F : Nat → Prop) (J : JS) (rc cb' cc' : Nat) (ps : List Nat) (n i : Nat) (wr : World) : Prop := ∃ M' F' lv bs, CyG W M F J rc cb' cc' ps n i M' F' lv bs wr
/-- What a copy is. -/
def CyP (W : World) (M F : Nat → Prop) (J : JS) (rc : Nat) (w : World) : Prop :=
  ∃ M' F', Jn w M' F' rc J ∧ (∀ k, M' k → W.heap.size ≤ k) ∧ (∀ k, F' k → (F k ∧ ¬ M k) ∨ W.heap.size ≤ k) ∧ Below W.heap.size W w
theorem CyR.done {rc cb' cc' : Nat} {ps : List Nat} {n : Nat} {w : World} (h : CyR W M F J rc cb' cc' ps n n w) : CyP W M F J rc w := by
  obtain ⟨M', F', lv, bs, h⟩ := h
  have hj := h.j
  rw [Nat.sub_self, List.drop_zero] at hj
  exact ⟨M', F', ⟨_, _, _, _, _, hj⟩, h.m, h.f, h.b⟩
theorem CyR.head {W3 : World} {cb cc cb' cc' rc : Nat} {ps : List Nat} {lv : Value} {bs : List Nat} (h : Jg W M F r J cb cc ps lv bs) (hB : Below W.heap.size W W3) (hO : OwnC W3 cb' cc' J.C) (hcb : W.heap.size ≤ cb') (hrc : W.heap.size ≤ rc)
    (hr : W3.heap[rc]? = some (.cells #[.slice (some ⟨cb', 0, none⟩) J.C.length cc', .pointer (hd ps), .slice none 0 0] 65 (0, 0))) : CyR W M F J rc cb' cc' ps J.L.length 0 W3 := by
  have hj := h.headed hB hO hcb hrc hr
  have hj' : Jg W3 (fun k => k = cb' ∨ k = rc) (fun k => (F k ∧ ¬ M k) ∨ k = cb' ∨ k = rc) rc { J with L := J.L.drop (J.L.length - 0) } cb' cc' ps (.slice none 0 0) [] := by
    rw [Nat.sub_zero, List.drop_length]; exact hj
  refine ⟨_, _, _, _, ⟨hj', ?_, ?_, hB⟩⟩
  · rintro k (rfl | rfl)
    · exact hcb
    · exact hrc
  · rintro k (h1 | rfl | rfl)
    · exact .inl h1
    · exact .inr hcb
    · exact .inr hrc
/-- One level more. -/
theorem CyR.step {rc cb' cc' n i m bm g cap N lc : Nat} {T : List Nat} {ps : List Nat} {lo : Option Addr} {bs : List Nat} {M' F' : Nat → Prop} {wr w2 w3 w4 : World} (hW : ∀ k, M k → k < W.heap.size) (hok : J.Ok) (h : CyG W M F J rc cb' cc' ps n i M' F' (.slice lo i lc) bs wr) (hn : J.L.length = n) (hi : i < n)
    (hL : J.L[n - 1 - i]? = some (m, T)) (hB : Below wr.heap.size wr w2) (hbm : wr.heap.size ≤ bm) (hT : TSet w2 bm J.C.length T) (hB3 : Below w2.heap.size w2 w3) (hs3 : w3.heap.size = N)
    (ho : LRow w4 73 2 (.slice (some ⟨g, 0, none⟩) (i + 1) cap) (i + 1) (rowOf ps (J.L.drop (n - i)) bs ++ [.pointer (hd (ps.drop (ps.length - m))), .map (some bm)])) (hg : w3.grownBy w4 (Value.slice lo i lc).ownBlock) (ha : (Value.slice lo i lc).ownBlock = some g ∨ g = N) (hgl : g < w4.heap.size) :
    CyR W M F J rc cb' cc' ps n (i + 1) (w4.setCell ⟨rc, 2, none⟩ (.slice (some ⟨g, 0, none⟩) (i + 1) cap)) := by
  have hBB : Below wr.heap.size wr w3 := hB.trans (hB3.mono hB.size)
  have h3 := h.j.below hBB
  have hdl : J.L.drop (n - (i + 1)) = (m, T) :: J.L.drop (n - i) := by
    have h1 : n - 1 - i < J.L.length := by omega
    rw [show n - (i + 1) = n - 1 - i by omega, List.drop_eq_getElem_cons h1, show n - 1 - i + 1 = n - i by omega]
    rw [List.getElem?_eq_getElem h1] at hL
    rw [Option.some.injEq] at hL
    rw [hL]
  have hmem : (m, T) ∈ J.L := List.mem_of_getElem? hL
  have hp := hok.mo.drop (i := n - (i + 1))
  rw [hdl] at hp
  have h5 := h3.pushed (m := m) (T := T) (by simp; omega) (by have := hok.dp; omega) (hT.kept (hB3.block bm hT.lt)) (fun hf => by have := h.j.fl _ hf; omega) (hok.ms _ hmem) (List.pairwise_cons.1 hp).1 (hok.ts _ hmem) ho hg (ha.imp id fun e => e.trans hs3.symm) hgl
  have hrw : W.heap.size ≤ rc := h.m _ h.j.mr
  have hgg : (∃ _ : M' g, True) ∨ wr.heap.size ≤ g := by
    rcases ha with e | e
    · exact .inl ⟨h.j.ml _ e, trivial⟩
    · exact .inr (by have := hBB.size; omega)
  have hsz := h.b.size
  have hgW : W.heap.size ≤ g := by
    rcases hgg with ⟨h1, _⟩ | h1
    · exact h.m _ h1
    · omega
  simp only at h5
  rw [← hdl] at h5
  refine ⟨_, _, _, _, ⟨h5, ?_, ?_, ?_⟩⟩
  · rintro k (h1 | rfl | rfl)
    · exact h.m k h1
    · omega
    · exact hgW
  · rintro k (h1 | rfl | rfl)
    · exact h.f k h1
    · exact .inr (by omega)
    · exact .inr hgW
  · have b3 : Below W.heap.size W w3 := h.b.trans (hBB.mono hsz)
    have b4 : Below W.heap.size W w4 := b3.grown hg b3.size (fun k hk => h.m _ (h.j.ml k hk))
    exact b4.grown (grown_set (W := w4) (r := rc) (k := 2) (.slice (some ⟨g, 0, none⟩) (i + 1) cap)) b4.size (fun k hk => by cases hk; exact hrw)

set_option maxRecDepth 100000 in
set_option maxHeartbeats 3200000 in
theorem copyj_any (h : Jn W M F r J) : Calls Try.prog 35 #[.pointer (some ⟨r, 0, none⟩)] W fun e w' => ∃ rc, e = .returned (.pointer (some ⟨rc, 0, none⟩)) ∧ CyP W M F J rc w' := by
  obtain ⟨cb, cc, ps, lv, bs, h⟩ := h
  obtain ⟨lo, lc, rfl, hob⟩ := lv_len h.row
  have HN := Lib.hid h.none_any
  obtain ⟨a0, a1, a2, _⟩ := three h.hr
  have hmost := h.ok.most
  have hpos := h.ok.pos
  have hdp := h.ok.dp
  have HC := Lib.hid (cloneW_any _ J.C cc W.drew h.cells.rd (by omega))
  have HH := Lib.hid h
  obtain ⟨i0, hi, hz0, hz1, hz2⟩ := info_parts Try.info73
  clear h hob
  go_enter Try.func35, Try.ntmps35
  go_wp2_with fail
  refine HN.out.mono ?_
  rintro e w' ⟨rfl, rfl⟩
  go_wp2_with fail
  go_region_law
    (first
      | (go_simp; go_at_call 55; refine HC.out.mono ?_; rintro e w2 ⟨ao2, cap2, rfl, hown2, hb1⟩
         have hb2 : Below W.heap.size W w2 := ((Below.refl W.heap.size W).drew).trans hb1
         have hK2 := HH.out.below hb2
         obtain ⟨b0, b1, b2, _⟩ := three hK2.hr
         have hrl2 : r < w2.heap.size := lt_of_block hK2.hr
         have HW2 := Lib.hid (And.intro hown2 hb2)
         clear hK2 hown2 hb2 hb1))
  all_goals
    obtain ⟨cb', rfl⟩ := HW2.out.1.some hpos
    obtain ⟨hC1, hC2, hC3⟩ := HW2.out.1.toC2
    have hb3 : Below W.heap.size W (w2.alloc (.cells #[.slice (some ⟨cb', 0, none⟩) J.C.length cap2, .pointer (hd ps), .slice none 0 0] 65)) := HW2.out.2.alloc HW2.out.2.size _
    have HR := Lib.hid (CyR.head HH.out hb3 (hC1.kept (heap_old w2 _ hC3)) hC2 (rc := w2.heap.size) HW2.out.2.size (heap_at w2 _ rfl))
    obtain ⟨d0, d1, d2, _⟩ := three (HH.out.below hb3).hr
    clear hC1 hC2 hC3 hb3 HW2 b0 b1 b2 hrl2 a0 a1 a2
    generalize w2.alloc (.cells #[.slice (some ⟨cb', 0, none⟩) J.C.length cap2, .pointer (hd ps), .slice none 0 0] 65) = w3 at *
    generalize w2.heap.size = rc at *
    obtain ⟨n, hn⟩ : ∃ n, J.L.length = n := ⟨_, rfl⟩
    rw [hn] at HR d2 HH hdp
    have HNN := Lib.hid hn
    clear hn
    go_wp2_with fail
    go_loopw [5, 26] (fun _ i wr => ∃ k : Nat, k ≤ n ∧ i = .int .i64 k ∧ CyR W M F J rc cb' cap2 ps n k wr) (fun _ i _ => n - (RowKit.intOf i).toNat)
    case atStart => exact ⟨0, Nat.zero_le _, rfl, HR.out⟩
    case round =>
      clear HR
      obtain ⟨k, hk, rfl, M', F', lv', bs', hcy⟩ := hrel
      by_cases hlt : k < n
      · obtain ⟨g, rfl⟩ : ∃ g, lo = some ⟨g, 0, none⟩ := by
          rcases HH.out.row.2 with ⟨_, h0⟩ | ⟨g, c, cur, h1, _⟩
          · have := HNN.out; omega
          · simp only [Value.slice.injEq] at h1; exact ⟨g, h1.1⟩
        have h0 := HH.out.below hcy.b
        obtain ⟨⟨m, T⟩, hL⟩ : ∃ x, J.L[n - 1 - k]? = some x := ⟨_, List.getElem?_eq_getElem (by have := HNN.out; omega)⟩
        obtain ⟨b, hbs, hT⟩ := h0.sets.at' hL
        have hat := rowOf_at (ps := ps) h0.sets.length hL hbs
        rw [HNN.out, show n - 1 - (n - 1 - k) = k by omega] at hat
        have c0 := h0.row.cells (g := g) rfl _ _ hat.1
        have c1 := h0.row.cells (g := g) rfl _ _ hat.2
        rw [add_lit, Nat.zero_add] at c0 c1
        obtain ⟨lo', lc', rfl⟩ : ∃ lo' lc', lv' = .slice lo' k lc' := by
          obtain ⟨a, b, e, _⟩ := lv_len hcy.j.row
          refine ⟨a, b, ?_⟩
          rw [e]
          have := HNN.out
          simp only [List.length_drop]
          rw [show J.L.length - (n - k) = k by omega]
        obtain ⟨pp, hpp⟩ : ∃ pp, hd (ps.drop (ps.length - m)) = pp := ⟨_, rfl⟩
        rw [hpp] at c0
        have HPP := Lib.hid hpp
        have HLL := Lib.hid hL
        have HCY := Lib.hid hcy
        have hgl : g < wr.heap.size := by obtain ⟨cur, hc⟩ := h0.row.lt (g := g) rfl; exact lt_of_block hc
        have hbT := Lib.hid hT
        have hB1 : Below wr.heap.size wr (wr.alloc (.cells #[.pointer pp, .map (some b)] 73)) := (Below.refl _ _).alloc (Nat.le_refl _) _
        have HTB := Lib.hid (show (wr.alloc (.cells #[.pointer pp, .map (some b)] 73)).heap[wr.heap.size]? = _ from heap_at wr (.cells #[.pointer pp, .map (some b)] 73) rfl)
        have hJ1 := hcy.j.below hB1
        obtain ⟨x0, x1, x2, _, _, f2⟩ := three hJ1.hr
        obtain ⟨t0, t1, _⟩ := two HTB.out
        have HCl := Lib.hid (show Calls Try.prog 60 #[.map (some b)] (wr.alloc (.cells #[.pointer pp, .map (some b)] 73)).drew fun e w' => e = .returned (.map (some (wr.alloc (.cells #[.pointer pp, .map (some b)] 73)).heap.size)) ∧ TSet w' (wr.alloc (.cells #[.pointer pp, .map (some b)] 73)).heap.size J.C.length T ∧ Below (wr.alloc (.cells #[.pointer pp, .map (some b)] 73)).heap.size (wr.alloc (.cells #[.pointer pp, .map (some b)] 73)).drew w' from
          mclone_any (W := (wr.alloc (.cells #[.pointer pp, .map (some b)] 73)).drew) (hT.kept (show (wr.alloc (.cells #[.pointer pp, .map (some b)] 73)).drew.heap[b]? = wr.heap[b]? from hB1.block b hT.lt)))
        have hdl : Hid ((J.L.drop (n - k)).length = k) := Lib.hid (by rw [List.length_drop, HNN.out]; omega)
        have HB1 := Lib.hid hB1
        have HZ1 : Hid ((wr.alloc (.cells #[.pointer pp, .map (some b)] 73)).heap.size = wr.heap.size + 1) := Lib.hid (by simp)
        have HJ1 := Lib.hid hJ1
        clear hpp hL hcy h0 hat hbs hT hB1 hJ1
        go_wp2_with fail
        clear c0 c1 hgl
        generalize wr.alloc (.cells #[.pointer pp, .map (some b)] 73) = w1 at *
        go_region_law
          (first
            | (go_simp; go_at_call 60; refine HCl.out.mono ?_; rintro e w5 ⟨rfl, hT5, hb5⟩
               have hb1 : Below w1.heap.size w1 w5 := ((Below.refl w1.heap.size w1).drew).trans hb5
               have hJ5 := HJ1.out.below hb1
               obtain ⟨_, _, y2, _, _, g2⟩ := three hJ5.hr
               obtain ⟨u0, u1, _⟩ := two ((hb1.block wr.heap.size (lt_of_block HTB.out)).trans HTB.out)
               have hrl5 : rc < w5.heap.size := lt_of_block hJ5.hr
               have hB6 := (Below.refl w5.heap.size w5).alloc (Nat.le_refl _) (.cells #[.pointer pp, .map (some w1.heap.size)] 73)
               have hJ6 := hJ5.below hB6
               have h6 := hJ6.row
               simp only [hdl.out] at h6
               have HR6 := Lib.hid h6
               have HN6 := Lib.hid (World.news_of_block (w := w5.alloc (.cells #[.pointer pp, .map (some w1.heap.size)] 73)) (B := w5.heap.size) (cs := #[.pointer pp, .map (some w1.heap.size)]) (t := 73) (fr := (0, 0)) (heap_at w5 _ rfl))
               have HC6 : Hid (∀ u ∈ [Value.pointer pp, Value.map (some w1.heap.size)], u.oneCell' = true) := Lib.hid (by simp [Value.oneCell'])
               have HS6 : Hid ((w5.alloc (.cells #[.pointer pp, .map (some w1.heap.size)] 73)).heap.size = w5.heap.size + 1) := Lib.hid (by simp)
               have HCell := Lib.hid (fun (w4 : World) (hg : (w5.alloc (.cells #[.pointer pp, .map (some w1.heap.size)] 73)).grownBy w4 (Value.slice lo' k lc').ownBlock) =>
                 (show w4.cell? ⟨rc, 2, none⟩ = some (.slice lo' k lc') ∧ w4.frozen? ⟨rc, 2, none⟩ = false from by
                   have hb := (hg.block rc (lt_of_block hJ6.hr) (fun e => (hJ6.row_ne e.symm).1 rfl)).trans hJ6.hr
                   obtain ⟨_, _, x1, _, _, y1⟩ := three hb
                   exact ⟨x1, y1⟩))
               have HB6 := Lib.hid hB6
               have HB5 := Lib.hid (And.intro hb1 hT5)
               clear hJ5 hJ6 hB6 h6 hb1 hb5 hT5)
            | (refine step_append_lrow (by rfl) _ _ _ (by rfl) 73 i0 (.agg #[.pointer none, .map none]) 2 16 Try.underlying63 hi hz0 hz1 hz2 rfl (by decide) (.slice lo' k lc') k (rowOf ps (J.L.drop (n - k)) bs') (by rfl) HR6.out ⟨w5.heap.size, 0, none⟩ 1 1 [.pointer pp, .map (some w1.heap.size)] (by rfl) (by rfl) HN6.out HC6.out (by omega) (by simp only [maxLen]; omega) (by omega) (w5.heap.size + 1) HS6.out ?_; intro g4 cap w4 hown4 hgrow4 hat4 hlt4; have HG4 := Lib.hid hgrow4; have HO4 := Lib.hid hown4; have HA4 := Lib.hid hat4; have HX4 := HCell.out w4 hgrow4; obtain ⟨q0, q1⟩ := HX4; clear hgrow4 hat4 hown4))
        all_goals
          have HST := Lib.hid (CyR.step (fun q hq => HH.out.fl _ (HH.out.mf _ hq)) HH.out.ok HCY.out HNN.out hlt HLL.out (HB1.out.trans (HB5.out.1.mono HB1.out.size)) (by have := HB1.out.size; exact this) HB5.out.2 HB6.out HS6.out (by rw [HPP.out]; exact HO4.out) HG4.out HA4.out hlt4)
          clear q0 q1
          generalize w4.setCell ⟨rc, 2, none⟩ (.slice (some ⟨g4, 0, none⟩) (k + 1) cap) = w8 at *
          go_wp2_with fail
          go_roundw
          case rel => exact ⟨k + 1, by omega, by go_num, HST.out⟩
          case measure => simp [RowKit.intOf]; omega
      · obtain rfl : k = n := by omega
        have HD := Lib.hid (CyR.done ⟨M', F', lv', bs', hcy⟩)
        clear hcy
        go_wp2_with fail
        go_ret
        exact ⟨rc, rfl, HD.out⟩
end
end Go.Proofs.Ytkpfnonacebmkaa
