/- The document's journal: New, Touched. -/
import Derived.Test.YtkpfnonacebmkaaKb
namespace Go.Proofs.Ytkpfnonacebmkaa
open Go.RowKit

theorem kNew_far (n : Int) (w : World) (h : n < 1 ∨ 4096 < n) : Calls Try.prog 11 #[.int .i64 n] w fun e w' => e = .returned (.tuple #[.pointer none, .int .i64 3]) ∧ w = w' := by
  by_cases h1 : n < 1
  · clear h
    go_enter Try.func11, Try.ntmps11
    go_wp2
    go_ret2
    exact ⟨rfl, rfl⟩
  · have h2 : 4096 < n := by omega
    have h3 : 1 ≤ n := by omega
    clear h h1
    go_enter Try.func11, Try.ntmps11
    go_wp2
    go_ret2
    exact ⟨rfl, rfl⟩
set_option maxRecDepth 100000 in
set_option maxHeartbeats 800000 in
theorem kNew_near (n : Nat) (w : World) (h0 : 1 ≤ n) (h1 : n ≤ 4096) : Calls Try.prog 11 #[.int .i64 n] w fun e w' => ∃ r F, e = .returned (.tuple #[.pointer (some ⟨r, 0, none⟩), .int .i64 0]) ∧ Kn w' F r ⟨List.replicate n 0, []⟩ ∧ (∀ k, F k → w.heap.size ≤ k) ∧ Below w.heap.size w w' := by
  have h2 : (1 : Int) ≤ n := by omega
  have h3 : (n : Int) ≤ 4096 := by omega
  have hmk := made_run n h1
  have q1 : decide ((n : Int) < 1) = false := decide_eq_false (by omega)
  have q2 : decide (4096 < (n : Int)) = false := decide_eq_false (by omega)
  go_enter Try.func11, Try.ntmps11
  go_wp2_with fail
  go_ret2
  have hlen : (⟨List.replicate n 0, []⟩ : KS).C.length = n := by simp
  refine ⟨w.heap.size + 1, fun k => k = w.heap.size ∨ k = w.heap.size + 1, rfl, ⟨w.heap.size, n, .slice none 0 0, [], ?_⟩, ?_, ?_⟩
  · refine ⟨?_, ?_, LRow.nil _ _ _, rfl, by simp, by simp, by simp, by simp, .inr rfl, .inl rfl, fun g e => by simp [Value.ownBlock] at e, by simp, ?_, ?_⟩
    · rw [hlen]; exact heap_at (w.alloc _) _ (by simp)
    · have h1 : OwnC (w.alloc (.cells (List.replicate n (Value.int .u64 0)).toArray 33)) w.heap.size n (List.replicate n 0) := by
        refine ⟨by simp, .inr ⟨w.heap.size, n, (List.replicate n (Value.int .u64 0)).toArray, by simp, Nat.zero_le _, heap_at w _ rfl, by simp, by simp only [maxLen]; omega, by simp, by simp⟩⟩
      exact h1.kept (heap_old _ _ (by simp))
    · rintro k (rfl | rfl) <;> (simp; try omega)
    · exact ⟨by rw [hlen]; omega, by rw [hlen]; exact ‹n ≤ 4096›, fun x hx => by simp at hx; rw [hx.2]; exact ⟨by omega, by omega⟩, by simp, by simp⟩
  · rintro k (rfl | rfl) <;> omega
  · exact ((Below.refl _ _).alloc (Nat.le_refl _) _).alloc (by simp) _

theorem riseK_succ (k : Nat) (S : List Int) : riseK (k + 1) S = riseK k S ++ (if (k : Int) ∈ S then [(k : Int)] else []) := by
  unfold riseK
  rw [List.range_succ, List.filter_append, List.map_append]
  congr 1
  by_cases h : (k : Int) ∈ S <;> simp [h]
theorem riseK_len (k : Nat) (S : List Int) : (riseK k S).length ≤ k := by
  unfold riseK
  rw [List.length_map]
  exact Nat.le_trans (List.length_filter_le _ _) (by simp)
theorem mem_take_succ {S : List Int} {n : Nat} (hn : n < S.length) (x : Int) : decide (x ∈ S.take (n + 1)) = (decide (x ∈ S.take n) || (S.getD n 0 == x)) := by
  have hm : x ∈ S.take (n + 1) ↔ x ∈ S.take n ∨ x = S[n] := by rw [List.take_succ_eq_append_getElem hn, List.mem_append, List.mem_singleton]
  rw [getD_at hn, Bool.eq_iff_iff, decide_eq_true_eq, Bool.or_eq_true, decide_eq_true_eq, beq_iff_eq, hm]
  constructor
  · exact fun h => h.imp id Eq.symm
  · exact fun h => h.imp id Eq.symm
theorem own_shapeI {w : World} {base : Nat} {v : Value} {n : Nat} {l : List Int} (h : w.ownsRow base 3 1 v n (l.map encZ)) : ∃ ao cap, v = .slice ao l.length cap ∧ OwnI w base ao cap l := by
  have hn : n = l.length := by have := h.1; simpa using this.symm
  subst hn
  rcases h.2 with ⟨rfl, h0⟩ | ⟨g, cap, cur, rfl, _⟩
  · exact ⟨none, 0, by rw [h0], by unfold OwnI; rw [h0] at h ⊢; exact h⟩
  · exact ⟨_, _, rfl, h⟩
theorem LRow.ri {w : World} {so : Option Addr} {sc : Nat} {S : List Int} (h : LRow w 3 1 (.slice so S.length sc) S.length (S.map (Value.int .i64))) : Ri w so S := fun k hk => by
  rcases h.2 with ⟨_, h0⟩ | ⟨g, cap, cur, e, _⟩
  · omega
  · simp only [Value.slice.injEq] at e
    obtain ⟨rfl, _⟩ := e
    refine ⟨g, 0, rfl, ?_⟩
    have := h.cells (g := g) rfl k (.int .i64 (S.getD k 0)) (by rw [List.getElem?_map, List.getElem?_eq_getElem hk, getD_at hk]; rfl)
    rwa [add_lit] at this

theorem OwnI.ge {w : World} {base : Nat} {ao : Option Addr} {cap : Nat} {l : List Int} (h : OwnI w base ao cap l) {g : Nat} (hg : (Value.slice ao l.length cap).ownBlock = some g) : base ≤ g := by
  rcases h.2 with ⟨h1, _⟩ | ⟨g', cap', cur, h1, h2, _⟩
  · rw [h1] at hg; simp [Value.ownBlock] at hg
  · rw [h1] at hg; cases hg; exact h2
section
variable {W : World} {F : Nat → Prop} {r : Nat} {K : KS}
set_option maxRecDepth 100000 in
set_option maxHeartbeats 1600000 in
theorem kTouched_none (h : Kn W F r K) (hL : K.L = []) :
    Calls Try.prog 48 #[.pointer (some ⟨r, 0, none⟩)] W fun e w' => e = .returned (.slice none 0 0) ∧ W = w' := by
  obtain ⟨cb, cc, lv, ws, h⟩ := h
  obtain ⟨lo, lc, rfl, _⟩ := lv_len h.row
  obtain ⟨a0, a1, _⟩ := two h.hr
  rw [hL] at a1
  clear h hL
  go_enter Try.func48, Try.ntmps48
  go_wp2_with fail
  refine wp_loop_rounds 1 ?_
  rw [rounds_succ]
  go_wp2
  go_ret
  exact ⟨rfl, rfl⟩

set_option maxRecDepth 100000 in
set_option maxHeartbeats 3200000 in
theorem kTouched_some (h : Kn W F r K) {w S : List Int} {L' : List (List Int × List Int)} (hL : K.L = (w, S) :: L') (ht : S.length ≤ 1000000) :
    Calls Try.prog 48 #[.pointer (some ⟨r, 0, none⟩)] W fun e w' => ∃ ao cap, e = .returned (.slice ao (riseK K.C.length S).length cap) ∧ OwnI w' W.heap.size ao cap (riseK K.C.length S) ∧ Below W.heap.size W w' := by
  obtain ⟨cb, cc, lv, ws, h⟩ := h
  obtain ⟨g, lc, b, c, sv, ws', rfl, hlc, rfl, _, _, hS, t0, t1⟩ := h.top hL
  obtain ⟨so, sc, rfl, _⟩ := lv_len hS
  have hdp : L'.length ≤ 63 := by have := h.ok.dp; rw [hL] at this; simp at this; omega
  have hmost := h.ok.most
  obtain ⟨i0, hi0, hz0, hz1, hz2⟩ := info_parts Try.info3
  generalize hdd : L'.length = d at *
  obtain ⟨a0, a1, _⟩ := two h.hr
  have hd1 : (0 : Int) ≤ d := by omega
  have hd2 : d < d + 1 := by omega
  have hd3 : (d : Int) < (d : Int) + 1 := by omega
  have HF := Lib.hid (fun (w' : World) (hb : Below W.heap.size W w') => (show w'.cell? ⟨r, 0, none⟩ = some (.slice (some ⟨cb, 0, none⟩) K.C.length cc) ∧ w'.cell? ⟨r, 1, none⟩ = some (.slice (some ⟨g, 0, none⟩) (d + 1) lc) ∧ w'.cell? ⟨g, d * 2 + 1, none⟩ = some (.slice so S.length sc) ∧ Ri w' so S from by
    have h' := h.below hb
    obtain ⟨x0, x1, _⟩ := two h'.hr
    refine ⟨x0, x1, ?_, hS.ri.below hb⟩
    exact (hb.cell (p := ⟨g, d * 2 + 1, none⟩) (World.block_lt_of_cell? W _ t1)).trans t1))
  have HO := Lib.hid (show OwnI W W.heap.size none 0 (riseK 0 S) from World.ownsRow_nil _ _ _ _)
  clear h hL hS hdd
  go_enter Try.func48, Try.ntmps48
  go_wp2_with fail
  clear a0 a1 t0 t1
  go_loopw [3, 5, 6, 7] (fun o i _ _ wr => ∃ (k : Nat) (ao : Option Addr) (cap : Nat), k ≤ K.C.length ∧ i = .int .i64 k ∧ o = .slice ao (riseK k S).length cap ∧ OwnI wr W.heap.size ao cap (riseK k S) ∧ Below W.heap.size W wr) (fun _ i _ _ _ => K.C.length - (RowKit.intOf i).toNat)
  case atStart => exact ⟨0, none, 0, Nat.zero_le _, rfl, rfl, HO.out, Below.refl _ _⟩
  case round =>
    clear HO
    obtain ⟨k, ao, cap, hk, rfl, rfl, ho, hb⟩ := hrel
    obtain ⟨a0, a1, t1, hri⟩ := HF.out wr hb
    have HB := Lib.hid hb
    have HO := Lib.hid ho
    have HRi := Lib.hid hri
    have hlen := riseK_len k S
    clear ho hb hri
    by_cases hlt : k < K.C.length
    · have HS := Lib.hid (riseK_succ k S)
      go_wp2_with fail
      go_loop [6, 7] (fun b q => ∃ n : Nat, n ≤ S.length ∧ q = .int .i64 n ∧ b = .bool (decide ((k : Int) ∈ S.take n))) (fun _ q => S.length - (RowKit.intOf q).toNat)
      case atStart => exact ⟨0, Nat.zero_le _, rfl, by simp⟩
      case round =>
        obtain ⟨n, hn, rfl, rfl⟩ := hrel
        by_cases hnl : n < S.length
        · obtain ⟨sb, o, rfl, hcell⟩ := HRi.out n hnl
          have HM := Lib.hid (mem_take_succ hnl (k : Int))
          generalize S.getD n 0 = x at *
          generalize decide ((k : Int) ∈ S.take n) = bb at *
          cases bb
          · go_wp2_with fail
            go_round
            case rel => exact ⟨n + 1, by omega, by go_num, by rw [HM.out]; simp⟩
            case measure => simp [RowKit.intOf]; omega
          · go_wp2_with fail
            go_round
            case rel => exact ⟨n + 1, by omega, by go_num, by rw [HM.out]; simp⟩
            case measure => simp [RowKit.intOf]; omega
        · have hT : S.take n = S := List.take_of_length_le (by omega)
          rw [hT]
          clear hT
          by_cases hin : (k : Int) ∈ S
          · have hq : decide ((k : Int) ∈ S) = true := decide_eq_true hin
            rw [hq]
            rw [if_pos hin] at HS
            have HR1 := Lib.hid (show RdV (wr.alloc (.cells #[.int .i64 (k : Int)] 3)) (some ⟨wr.heap.size, 0, none⟩) [.int .i64 (k : Int)] from fun j u hu => by
              cases j with
              | zero => exact ⟨_, _, rfl, by simp at hu; subst hu; exact (one (heap_at wr (.cells #[.int .i64 (k : Int)] 3) rfl)).1⟩
              | succ j => simp at hu)
            have HO1 := Lib.hid (HO.out.alloc (.cells #[.int .i64 (k : Int)] 3))
            have HB1 := Lib.hid (HB.out.alloc HB.out.size (.cells #[.int .i64 (k : Int)] 3))
            have HZ := Lib.hid HB.out.size
            have HOB := Lib.hid HO.out
            clear hin hq
            go_wp2_with (at_builtin; refine wpList_append_src rfl (.tmp 57) (.tmp 59) 54 rfl W.heap.size 3 i0 (.int .i64 0) 8 Try.underlying54 hi0 hz0 hz1 hz2 rfl (.slice ao (riseK k S).length cap) (riseK k S).length ((riseK k S).map encZ) rfl HO1.out (some ⟨wr.heap.size, 0, none⟩) 1 1 [.int .i64 (k : Int)] rfl rfl HR1.out (by simp [Value.oneCell']) (by simp only [maxLen]; omega) (by omega) (Nat.le_trans HZ.out (by simp)) ?_; intro v1 w1 hown1 hgrow1 hnil1 hloc1; have HX1 := Lib.hid (And.intro hown1 hgrow1); clear hown1 hgrow1 hnil1 hloc1)
            have hx : w1.ownsRow W.heap.size 3 1 v1 ((riseK k S).length + 1) ((riseK (k + 1) S).map encZ) := by rw [HS.out, List.map_append]; exact HX1.out.1
            obtain ⟨ao', cap', rfl, hown⟩ := own_shapeI hx
            have HN := Lib.hid (And.intro hown (HB1.out.grown HX1.out.2 (Nat.le_trans HZ.out (by simp)) (fun g hg => OwnI.ge HOB.out hg)))
            clear hx hown
            go_roundw
            case rel => exact ⟨k + 1, ao', cap', by omega, by go_num, rfl, HN.out.1, HN.out.2⟩
            case measure => simp [RowKit.intOf]; omega
          · have hq : decide ((k : Int) ∈ S) = false := decide_eq_false hin
            rw [hq]
            rw [if_neg hin, List.append_nil] at HS
            clear hin hq
            go_wp2_with fail
            go_roundw
            case rel => exact ⟨k + 1, ao, cap, by omega, by go_num, by rw [HS.out], by rw [HS.out]; exact HO.out, HB.out⟩
            case measure => simp [RowKit.intOf]; omega
    · obtain rfl : k = K.C.length := by omega
      go_wp2_with fail
      go_ret
      exact ⟨ao, cap, rfl, HO.out, HB.out⟩
theorem kTouched_any (h : Kn W F r K) (ht : K.tot ≤ 1000000) :
    Calls Try.prog 48 #[.pointer (some ⟨r, 0, none⟩)] W fun e w' => ∃ ao cap, e = .returned (.slice ao K.touched.length cap) ∧ OwnI w' W.heap.size ao cap K.touched ∧ Below W.heap.size W w' := by
  unfold KS.tot at ht
  cases hL : K.L with
  | nil =>
    have e : K.touched = [] := by unfold KS.touched; rw [hL]
    rw [e]
    exact (kTouched_none h hL).mono fun e w' ⟨h1, h2⟩ => ⟨none, 0, h1, World.ownsRow_nil _ _ _ _, h2 ▸ Below.refl _ _⟩
  | cons p L' =>
    obtain ⟨w, S⟩ := p
    have e : K.touched = riseK K.C.length S := by unfold KS.touched; rw [hL]
    rw [e]
    rw [hL] at ht
    simp only [List.map_cons, List.sum_cons] at ht
    exact kTouched_some h hL (by omega)
end
end Go.Proofs.Ytkpfnonacebmkaa
