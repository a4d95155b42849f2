/- The reference's Put. -/
import Derived.Test.YtjiffflhedekfaaByt
import Derived.Test.YtjiffflhedekfaaNum
import Derived.Test.YtjiffflhedekfaaPut
namespace Go.Proofs.Ytjiffflhedekfaa
open Go.RowKit

theorem ownY_lit (w : World) (x : Int) : OwnY (w.alloc (.cells #[.int .u8 x] 5)) w.heap.size (some ⟨w.heap.size, 0, none⟩) 1 [x] :=
  World.ownsRow_lit w #[.int .u8 x] 1 (Nat.le_refl _) (by simp [maxLen]) rfl

set_option maxRecDepth 100000 in
set_option maxHeartbeats 400000 in
theorem refPut_small (n : Int) (w : World) (h0 : 0 ≤ n) (h : n < 128) :
    Calls Try.prog 58 #[.int .u64 n] w fun e w' => ∃ g cap, e = .returned (.slice (some ⟨g, 0, none⟩) [n].length cap) ∧ OwnY w' w.heap.size (some ⟨g, 0, none⟩) cap [n] ∧ Below w.heap.size w w' := by
  have hc : IntKind.u8.wrap n = n := by rw [IntKind.wrap_u8]; omega
  go_enter Try.func58, Try.ntmps58
  go_wp2
  go_ret
  exact ⟨w.heap.size, 1, rfl, ownY_lit w n, (Below.refl _ _).alloc (Nat.le_refl _) _⟩
set_option maxRecDepth 100000 in
set_option maxHeartbeats 400000 in
theorem refPut_big (n : Int) (w : World) (h : 128 ≤ n) (h1 : n < 18446744073709551616) (l : List Int) (hl : l.length ≤ 100)
    (ih : ∀ w, Calls Try.prog 58 #[.int .u64 (n / 128)] w fun e w' => ∃ g cap, e = .returned (.slice (some ⟨g, 0, none⟩) l.length cap) ∧ OwnY w' w.heap.size (some ⟨g, 0, none⟩) cap l ∧ Below w.heap.size w w') :
    Calls Try.prog 58 #[.int .u64 n] w fun e w' => ∃ g cap, e = .returned (.slice (some ⟨g, 0, none⟩) ((n % 128 + 128) :: l).length cap) ∧ OwnY w' w.heap.size (some ⟨g, 0, none⟩) cap ((n % 128 + 128) :: l) ∧ Below w.heap.size w w' := by
  obtain ⟨i0, hi, hz0, hz1, hz2⟩ := info_parts Try.info5
  have h0 : 0 ≤ n := by omega
  have hq : IntKind.u64.wrap (n.tdiv 128) = n / 128 := by
    rw [IntKind.wrap_u64, Int.tdiv_eq_ediv_of_nonneg h0]; omega
  have ho : bits BinOp.or IntKind.u8 (n % 128) 128 = n % 128 + 128 := by
    have := or_byte (n % 128) (by omega)
    rwa [show n % 128 % 256 = n % 128 by omega, show n % 128 % 128 = n % 128 by omega] at this
  have IH := Lib.hid ih
  clear ih
  go_enter Try.func58, Try.ntmps58
  go_wp2_with fail
  refine (IH.out _).mono ?_
  rintro e w2 ⟨g, cap, rfl, hown, hb⟩
  have hz3 : w.heap.size ≤ w2.heap.size := by have := hb.size; simp at this; omega
  have HB := Lib.hid (((Below.refl w.heap.size w).alloc (Nat.le_refl _) (.cells #[.int .u8 (n % 128 + 128)] 5)).trans (hb.mono (by simp)))
  have HR := Lib.hid ((ownY_lit w (n % 128 + 128)).below hb)
  have HO := Lib.hid (OwnY.rb (ao := some ⟨g, 0, none⟩) hown)
  clear hown hb
  go_wp2_with (at_builtin; refine wpList_append_src rfl (.tmp 12) (.tmp 15) 43 rfl w.heap.size 5 i0 (.int .u8 0) 1 Try.underlying43 hi hz0 hz1 hz2 rfl (.slice (some ⟨w.heap.size, 0, none⟩) 1 1) 1 ([n % 128 + 128].map (Value.int .u8)) rfl HR.out (some ⟨g, 0, none⟩) cap l.length (l.map (Value.int .u8)) (by simp) rfl (rbV_of HO.out) (oneY_cells _) (by simp only [maxLen]; omega) (by omega) hz3 ?_; intro v1 w4 hown4 hgrow4 hnil4 hloc4)
  rw [← List.map_append, show 1 + l.length = ([n % 128 + 128] ++ l).length by simp; omega] at hown4
  obtain ⟨_, ao4, cap4, rfl, hown⟩ := ownY_shape hown4
  have hex : ∃ g4, ao4 = some ⟨g4, 0, none⟩ := by
    rcases hown.2 with ⟨h1, _⟩ | ⟨g4, _, _, h1, _⟩
    · have := hnil4.1 h1; simp at this
    · simp only [Value.slice.injEq, true_and] at h1; exact ⟨g4, h1.1⟩
  obtain ⟨g4, hg4⟩ := hex
  subst hg4
  have HF := Lib.hid (HB.out.grown hgrow4 HB.out.size (fun k hk => by simp [Value.ownBlock] at hk; omega))
  have HW := Lib.hid hown
  clear hown hown4 hgrow4 hnil4 hloc4 HR HO
  go_wp2_with fail
  go_ret
  exact ⟨g4, cap4, rfl, HW.out, HF.out⟩
theorem refPut_any (f : Nat) : ∀ (n : Int) (w : World), 0 ≤ n → n < 2 * 128 ^ f → f ≤ 9 →
    Calls Try.prog 58 #[.int .u64 n] w fun e w' => ∃ g cap, e = .returned (.slice (some ⟨g, 0, none⟩) (putF f n).length cap) ∧ OwnY w' w.heap.size (some ⟨g, 0, none⟩) cap (putF f n) ∧ Below w.heap.size w w' := by
  induction f with
  | zero => intro n w h0 h1 _; simp only [Int.pow_zero] at h1; exact refPut_small n w h0 (by omega)
  | succ f ih =>
    intro n w h0 h1 hf
    rw [putF]
    by_cases h : 128 ≤ n
    · rw [if_pos h]
      have h9 : n < 18446744073709551616 := by
        have := pow_le9 (show f + 1 ≤ 9 by omega)
        omega
      exact refPut_big n w h h9 _ (by have := putF_len f (n / 128); omega) (fun w => ih (n / 128) w (by omega) (pow_step h1) (by omega))
    · rw [if_neg h]; exact refPut_small n w h0 (by omega)
theorem refPut (n : Int) (w : World) (hn : W64 n) :
    Calls Try.prog 58 #[.int .u64 n] w fun e w' => ∃ g cap, e = .returned (.slice (some ⟨g, 0, none⟩) (putL n).length cap) ∧ OwnY w' w.heap.size (some ⟨g, 0, none⟩) cap (putL n) ∧ Below w.heap.size w w' :=
  refPut_any 9 n w hn.1 (by have := hn.2; omega) (Nat.le_refl _)
end Go.Proofs.Ytjiffflhedekfaa
