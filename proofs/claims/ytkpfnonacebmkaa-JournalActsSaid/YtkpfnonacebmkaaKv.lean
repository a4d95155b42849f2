/- The document's journal: Undo, Back. -/
import Derived.Test.YtkpfnonacebmkaaKd
namespace Go.Proofs.Ytkpfnonacebmkaa
open Go.RowKit

theorem kUndoN_L (K : KS) : ∀ k, (KS.undoN k K).L = K.L.drop k
  | 0 => rfl
  | k + 1 => by
    have e : ∀ K : KS, K.undo.1.L = K.L.tail := fun K => by
      unfold KS.undo
      cases h : K.L with
      | nil => simp [h]
      | cons p L' => rfl
    rw [KS.undoN, e, kUndoN_L K k, List.tail_drop]
theorem run_cut68 (g n c d : Nat) (W : World) (hd : d ≤ n) (hn : n ≤ c) : (Instr.slice 68 (.slice (some ⟨g, 0, none⟩) n c) none (some (.int .i64 d)) none).run Try.prog W = .ok (.slice (some ⟨g, 0, none⟩) d c) W := by
  obtain ⟨i0, hi, hz0, hz1, hz2⟩ := info_parts Try.info76
  have hel : Try.prog.elem 68 = 76 := by kernel_rfl
  have h1 : d ≤ c := by omega
  simp [Instr.slice, run_underlying Try.underlying68, Instr.sliceBounds, run_sliceBound, sliced, hel, sizeOf, typeInfo, hi, hz1, Result.andThen, h1]
  try (intro _; simp [add_lit])
section
variable {W : World} {F : Nat → Prop} {r : Nat} {K : KS}
theorem Kg.undone {cb cc g d lc b c : Nat} {sv : Value} {ws' : List LB} {w S : List Int} {L' : List (List Int × List Int)} (h : Kg W F r K cb cc (.slice (some ⟨g, 0, none⟩) (d + 1) lc) ((b, c, sv) :: ws')) (hL : K.L = (w, S) :: L') (hd0 : L'.length = d) :
    Kst W F r ((W.setCell ⟨r, 0, none⟩ (.slice (some ⟨b, 0, none⟩) w.length c)).setCell ⟨r, 1, none⟩ (.slice (some ⟨g, 0, none⟩) d lc)) ⟨w, L'⟩ := by
  have k1 : W.grownBy (W.setCell ⟨r, 0, none⟩ (.slice (some ⟨b, 0, none⟩) w.length c)) (some r) := grown_set _
  have k2 : (W.setCell ⟨r, 0, none⟩ (.slice (some ⟨b, 0, none⟩) w.length c)).grownBy ((W.setCell ⟨r, 0, none⟩ (.slice (some ⟨b, 0, none⟩) w.length c)).setCell ⟨r, 1, none⟩ (.slice (some ⟨g, 0, none⟩) d lc)) (some r) := grown_set _
  have k3 := grownBy_trans k1 k2
  refine ⟨F, ⟨b, c, _, ws', h.dropped hL hd0 (C' := w) (cb' := b) (cc' := c) (.inr ⟨rfl, rfl, rfl⟩) (heap2_set1 (heap2_set0 h.hr _) _) (fun k hk hne => k3.block k hk (fun e => hne (by cases e; rfl))) (by simp [World.setCell])⟩, Stp.of_grown F k3 h.mr⟩
theorem Kg.cutTop {cb cc g d lc : Nat} {x : LB} {ws' : List LB} {y : List Int × List Int} {L' : List (List Int × List Int)} (h : Kg W F r K cb cc (.slice (some ⟨g, 0, none⟩) (d + 1) lc) (x :: ws')) (hL : K.L = y :: L') (hd0 : L'.length = d) :
    Kst W F r (W.setCell ⟨r, 1, none⟩ (.slice (some ⟨g, 0, none⟩) d lc)) ⟨K.C, L'⟩ := by
  have k2 : W.grownBy (W.setCell ⟨r, 1, none⟩ (.slice (some ⟨g, 0, none⟩) d lc)) (some r) := grown_set _
  exact ⟨F, ⟨cb, cc, _, ws', h.dropped hL hd0 (.inl ⟨rfl, rfl, rfl⟩) (heap2_set1 h.hr _) (fun k hk hne => k2.block k hk (fun e => hne (by cases e; rfl))) (by simp [World.setCell])⟩, Stp.of_grown F k2 h.mr⟩

set_option maxRecDepth 100000 in
set_option maxHeartbeats 1600000 in
theorem kUndo_any (h : Kn W F r K) :
    Calls Try.prog 50 #[.pointer (some ⟨r, 0, none⟩)] W fun e w' => e = .returned (.int .i64 K.undo.2) ∧ Kst W F r w' K.undo.1 := by
  have HJ := Lib.hid h
  obtain ⟨cb, cc, lv, ws, h⟩ := h
  cases hL : K.L with
  | nil =>
    have HU : Hid (K.undo = (K, 11)) := Lib.hid (by unfold KS.undo; rw [hL])
    obtain ⟨lo, lc, rfl, _⟩ := lv_len h.row
    obtain ⟨a0, a1, _⟩ := two h.hr
    rw [hL] at a1
    clear h hL
    go_enter Try.func50, Try.ntmps50
    go_wp2_with fail
    go_ret
    rw [HU.out]
    exact ⟨rfl, Kst.same HJ.out (Below.refl _ _)⟩
  | cons p L' =>
    obtain ⟨w, S⟩ := p
    have HU : Hid (K.undo = (⟨w, L'⟩, 0)) := Lib.hid (by unfold KS.undo; rw [hL])
    obtain ⟨g, lc, b, c, sv, ws', rfl, hlc, rfl, _, _, _, t0, t1⟩ := h.top hL
    have hdp : L'.length ≤ 63 := by have := h.ok.dp; rw [hL] at this; simp at this; omega
    generalize hd : L'.length = d at *
    obtain ⟨a0, a1, f0, f1⟩ := two h.hr
    have HK := Lib.hid (h.undone hL hd)
    have hcut := fun W => run_cut68 g (d + 1) lc d W (by omega) hlc
    have hgr := (h.row_ne (g := g) rfl).1
    have hd1 : (0 : Int) ≤ d := by omega
    have hd2 : d < d + 1 := by omega
    have hd3 : (d : Int) < (d : Int) + 1 := by omega
    have hsub : IntKind.i64.wrap (d : Int) = d := IntWalk.i64_in _ (by omega)
    obtain ⟨b0, b1, f2, f3⟩ := two (heap2_set0 h.hr (.slice (some ⟨b, 0, none⟩) w.length c))
    clear h hL hd
    go_enter Try.func50, Try.ntmps50
    go_wp2_with fail
    go_ret
    rw [HU.out]
    exact ⟨rfl, HK.out⟩

set_option maxRecDepth 100000 in
set_option maxHeartbeats 1600000 in
theorem kBack_any (h : Kn W F r K) (d : Int) :
    Calls Try.prog 19 #[.pointer (some ⟨r, 0, none⟩), .int .i64 d] W fun e w' => e = .returned (.int .i64 (K.back d).2) ∧ Kst W F r w' (K.back d).1 := by
  have HH := Lib.hid h
  obtain ⟨cb, cc, lv, ws, h⟩ := h
  obtain ⟨lo, lc, rfl, _⟩ := lv_len h.row
  obtain ⟨a0, a1, _⟩ := two h.hr
  have hdp := h.ok.dp
  by_cases h0 : d < 0
  · have HB : Hid (K.back d = (K, 3)) := Lib.hid (by unfold KS.back; rw [if_pos (Or.inl h0)])
    clear h
    go_enter Try.func19, Try.ntmps19
    go_wp2_with fail
    go_ret
    rw [HB.out]
    exact ⟨rfl, Kst.same HH.out (Below.refl _ _)⟩
  · have q0 : decide (d < 0) = false := decide_eq_false h0
    by_cases h1 : (K.L.length : Int) < d
    · have HB : Hid (K.back d = (K, 3)) := Lib.hid (by unfold KS.back; rw [if_pos (Or.inr h1)])
      have h0' : 0 ≤ d := by omega
      clear h h0
      go_enter Try.func19, Try.ntmps19
      go_wp2_with fail
      go_ret
      rw [HB.out]
      exact ⟨rfl, Kst.same HH.out (Below.refl _ _)⟩
    · have HB : Hid (K.back d = (KS.undoN (K.L.length - d.toNat) K, 0)) := Lib.hid (by unfold KS.back; rw [if_neg (by omega)])
      obtain ⟨k, rfl⟩ : ∃ k : Nat, d = k := ⟨d.toNat, by omega⟩
      rw [Int.toNat_natCast] at HB
      have hk : k ≤ K.L.length := by omega
      have hk0 : (k : Int) ≤ K.L.length := by omega
      have hk1 : (0 : Int) ≤ k := by omega
      have q1 : decide (K.L.length < k) = false := decide_eq_false (by omega)
      clear h h0 h1
      go_enter Try.func19, Try.ntmps19
      go_wp2_with fail
      clear a0 a1
      go_loopg [16] (K.L.length - k) (fun n _ wr => ∃ q, q + n = K.L.length - k ∧ Kst W F r wr (KS.undoN q K))
      case atStart => exact ⟨0, by omega, Kst.same HH.out (Below.refl _ _)⟩
      case round =>
        obtain ⟨q, hq, F1, hj, hst⟩ := hrel
        have hL := kUndoN_L K q
        have HU := Lib.hid (kUndo_any hj)
        have HJ := Lib.hid hj
        obtain ⟨cb', cc', lv', ws', hj⟩ := hj
        obtain ⟨lo', lc', rfl, _⟩ := lv_len hj.row
        obtain ⟨a0, a1, _⟩ := two hj.hr
        have hlen : (KS.undoN q K).L.length = k + gk := by rw [hL, List.length_drop]; omega
        rw [hlen] at a1
        have HS := Lib.hid hst
        have HQ := Lib.hid (And.intro hq hlen)
        clear hj hst hL hq hlen
        by_cases hz : gk = 0
        · subst hz
          obtain rfl : q = K.L.length - k := by have := HQ.out.1; omega
          go_wp2_with fail
          go_ret
          rw [HB.out]
          exact ⟨rfl, _, HJ.out, HS.out⟩
        · have hz' : k < k + gk := by omega
          have hz2 : (k : Int) < (k : Int) + gk := by omega
          clear hz
          go_wp2_with fail
          refine HU.out.mono ?_
          rintro e w5 ⟨rfl, hjn⟩
          have HN5 := Lib.hid hjn
          clear hjn
          go_wp2_with fail
          go_roundg (gk - 1)
          case measure => omega
          case rel => exact ⟨q + 1, by have := HQ.out.1; omega, Kst.trans HS.out HN5.out⟩
end
end Go.Proofs.Ytkpfnonacebmkaa
