/- The walks of the lists: same, copied, slices.Clone. -/
import Derived.Test.YtkpfnonacebmkaaProg
import Derived.Test.YtkpfnonacebmkaaSp
import Derived.Test.YtkpfnonacebmkaaApp
import Derived.WalkKit
import Derived.WalkSpells
import Derived.WalkLawsBesides
import Derived.Deep.QuietTactic
import Derived.BigQuiet
namespace Go.Proofs.Ytkpfnonacebmkaa
open Go.RowKit

theorem take_ne {l m : List Int} {k : Nat} (h : l.getD k 0 ≠ m.getD k 0) : l ≠ m := fun e => h (by rw [e])
theorem take_eq {l m : List Int} {k : Nat} (hk : k < l.length) (hl : l.length = m.length) (h : l.take k = m.take k) (h' : l.getD k 0 = m.getD k 0) : l.take (k + 1) = m.take (k + 1) := by
  rw [List.take_succ_eq_append_getElem hk, List.take_succ_eq_append_getElem (by omega), h]
  rw [getD_at hk, getD_at (by omega)] at h'
  rw [h']

set_option maxHeartbeats 400000 in
/-- distraintlaw10.same. -/
theorem same_any (ao bo : Option Addr) (l m : List Int) (c d : Nat) (w : World) (hl : Rd w ao l) (hm : Rd w bo m) (nl : l.length ≤ 9223372036854775807) (nm : m.length ≤ 9223372036854775807) :
    Calls Try.prog 25 #[.slice ao l.length c, .slice bo m.length d] w fun e w' => e = .returned (.bool (decide (l = m))) ∧ ∃ n, w' = w.drewN n := by
  by_cases hlen : l.length = m.length
  · have hq : ((l.length : Int) == (m.length : Int)) = true := beq_iff_eq.2 (by omega)
    have HL := Lib.hid hlen
    clear hlen
    go_enter Try.func25, Try.ntmps25
    go_wp2_with fail
    go_loopw [5, 6] (fun s i wr => ∃ k n : Nat, k ≤ l.length ∧ i = .int .i64 k ∧ wr = w.drewN n ∧ ((s = .bool true ∧ l.take k = m.take k) ∨ (s = .bool false ∧ l ≠ m)))
      (fun _ i _ => l.length - (intOf i).toNat)
    case atStart => exact ⟨0, 0, Nat.zero_le _, rfl, rfl, .inl ⟨rfl, rfl⟩⟩
    case round =>
      obtain ⟨k, n, hk, rfl, rfl, ⟨rfl, ht⟩ | ⟨rfl, hne⟩⟩ := hrel
      · have HT := Lib.hid ht
        clear ht
        by_cases hlt : k < l.length
        · have hlt' : k < m.length := by have := HL.out; omega
          obtain ⟨b, o, rfl, hc⟩ := hl k hlt
          obtain ⟨b', o', rfl, hc'⟩ := hm k hlt'
          have H1 := Lib.hid (fun h => take_eq hlt HL.out HT.out h)
          have H2 := Lib.hid (@take_ne l m k)
          generalize l.getD k 0 = x at *
          generalize m.getD k 0 = y at *
          by_cases hxy : x = y
          · subst hxy
            go_wp2_with fail
            go_quiet (fail)
            go_wp2
            go_roundw
            case rel => exact ⟨k + 1, n + _, by omega, by go_num, rfl, .inl ⟨rfl, H1.out (by simp)⟩⟩
            case measure => simp [intOf]; omega
          · have hb : (x == y) = false := by simpa using hxy
            go_wp2_with fail
            go_quiet (fail)
            go_wp2
            go_roundw
            case rel => exact ⟨k + 1, n + _, by omega, by go_num, rfl, .inr ⟨rfl, H2.out hxy⟩⟩
            case measure => simp [intOf]; omega
        · have he : l = m := by
            have h1 := HT.out
            have h2 := HL.out
            rwa [List.take_of_length_le (by omega), List.take_of_length_le (by omega)] at h1
          have HE := Lib.hid he
          clear he
          go_wp2
          go_ret
          exact ⟨by simp [HE.out], n, rfl⟩
      · have hd : decide (l = m) = false := by simpa using hne
        have HD := Lib.hid hd
        clear hd hne
        go_wp2
        go_ret
        exact ⟨by rw [HD.out]; rfl, n, rfl⟩
  · have hq : ((l.length : Int) == (m.length : Int)) = false := by rw [beq_eq_false_iff_ne]; omega
    have hd : decide (l = m) = false := by simp; intro e; exact hlen (by rw [e])
    have HD := Lib.hid hd
    clear hlen hd
    go_enter Try.func25, Try.ntmps25
    go_wp2_with fail
    refine wp_loop_rounds 1 ?_
    rw [rounds_succ]
    go_wp2
    go_ret
    exact ⟨by rw [HD.out]; rfl, 0, rfl⟩

/-- These words lie in memory of the call's own. -/
def OwnW (w : World) (base : Nat) (ao : Option Addr) (cap : Nat) (l : List Int) : Prop :=
  w.ownsRow base 33 1 (.slice ao l.length cap) l.length (l.map (Value.int .u64))
theorem own_shape {w : World} {base : Nat} {v : Value} {n : Nat} {l : List Int} (h : w.ownsRow base 33 1 v n (l.map (Value.int .u64))) : n = l.length ∧ ∃ ao cap, v = .slice ao l.length cap ∧ OwnW w base ao cap l := by
  have hn : n = l.length := by have := h.1; simpa using this.symm
  subst hn
  refine ⟨rfl, ?_⟩
  rcases h.2 with ⟨rfl, h0⟩ | ⟨g, cap, cur, rfl, _⟩
  · exact ⟨none, 0, by rw [h0], by unfold OwnW; rw [h0] at h ⊢; exact h⟩
  · exact ⟨_, _, rfl, h⟩
theorem OwnW.rd {w : World} {base : Nat} {ao : Option Addr} {cap : Nat} {l : List Int} (h : OwnW w base ao cap l) : Rd w ao l := fun k hk => by
  rcases h.2 with ⟨h1, h0⟩ | ⟨g, cap', cur, h1, _, hg, _, _, _, ht⟩
  · omega
  · simp only [Value.slice.injEq, true_and] at h1
    obtain ⟨rfl, rfl⟩ := h1
    refine ⟨g, 0, rfl, ?_⟩
    have := World.ownsRow.cellAt h k (by omega)
    rw [Nat.zero_add, this, List.getElem?_map, List.getElem?_eq_getElem hk, getD_at hk]
    rfl
theorem rdV_of {w : World} {ao : Option Addr} {l : List Int} (h : Rd w ao l) : RdV w ao (l.map (Value.int .u64)) := fun j u hu => by
  rw [List.getElem?_map] at hu
  cases hj : l[j]? with
  | none => rw [hj] at hu; cases hu
  | some x =>
    rw [hj] at hu
    simp at hu
    subst hu
    have hl : j < l.length := by
      rcases Nat.lt_or_ge j l.length with h' | h'
      · exact h'
      · rw [List.getElem?_eq_none h'] at hj; cases hj
    obtain ⟨b, o, e, hc⟩ := h j hl
    rw [getD_at hl] at hc
    rw [List.getElem?_eq_getElem hl] at hj
    cases hj
    exact ⟨b, o, e, hc⟩
theorem one_cells (l : List Int) : ∀ u ∈ l.map (Value.int .u64), u.oneCell' = true := fun u hu => by
  obtain ⟨x, _, rfl⟩ := List.mem_map.1 hu
  rfl
theorem Try.info33 : (Try.prog.info? 33).map (fun i => (i.zero, i.size, i.bytes)) = some (some (.int .u64 0), 1, 8) := by kernel_rfl

set_option maxHeartbeats 400000 in
/-- distraintref10.copied. -/
theorem copied_any (ao : Option Addr) (l : List Int) (c : Nat) (w : World) (hl : Rd w ao l) (nl : l.length * 8 ≤ 140737488355328) :
    Calls Try.prog 38 #[.slice ao l.length c] w fun e w' => ∃ g cap, e = .returned (.slice (some ⟨g, 0, none⟩) l.length cap) ∧ OwnW w' w.heap.size (some ⟨g, 0, none⟩) cap l ∧ Below w.heap.size w w' := by
  obtain ⟨i0, hi, hz0, hz1, hz2⟩ := info_parts Try.info33
  have hr := (rdV_of hl)
  have hr' : RdV (w.alloc (.cells #[] 33)) ao (l.map (Value.int .u64)) := fun j u hu => by
    obtain ⟨b, o, e, hc⟩ := hr j u hu
    exact ⟨b, o, e, by rw [World.cell?_alloc_past _ _ _ (World.block_lt_of_cell? w _ hc)]; exact hc⟩
  have H := Lib.hid hr'
  clear hr hr'
  go_enter Try.func38, Try.ntmps38
  go_wp2_with (at_builtin; refine wpList_append_src rfl (.tmp 3) (.tmp 4) 43 rfl w.heap.size 33 i0 (.int .u64 0) 8 Try.underlying43 hi hz0 hz1 hz2 rfl (.slice (some ⟨w.heap.size, 0, none⟩) 0 0) 0 [] rfl (World.ownsRow_made _ _ _ (Nat.le_refl _) (by simp [maxLen]) rfl) ao c l.length (l.map (Value.int .u64)) (by simp) rfl H.out (one_cells l) (by simp only [maxLen]; omega) (by omega) (by simp) ?_; intro v1 w1 hown1 hgrow1 hnil1 hloc1)
  go_ret
  simp only [Nat.zero_add, List.nil_append] at hown1
  obtain ⟨_, ao', cap, rfl, hown⟩ := own_shape hown1
  have hb : Below w.heap.size w w1 := ((Below.refl _ _).alloc (Nat.le_refl _) _).grown hgrow1 (by simp) (fun k hk => by simp [Value.ownBlock] at hk; omega)
  rcases hown.2 with ⟨h1, _⟩ | ⟨g, cap', cur, h1, _⟩
  · exact absurd (hnil1.1 h1).1 (by simp)
  · simp only [Value.slice.injEq, true_and] at h1
    obtain ⟨rfl, rfl⟩ := h1
    exact ⟨g, cap, rfl, hown, hb⟩

set_option maxHeartbeats 400000 in
/-- slices.Clone at []uint64. -/
theorem cloneW_any (ao : Option Addr) (l : List Int) (c : Nat) (w : World) (hl : Rd w ao l) (nl : l.length * 8 ≤ 140737488355328) :
    Calls Try.prog 55 #[.slice ao l.length c] w fun e w' => ∃ ao' cap, e = .returned (.slice ao' l.length cap) ∧ OwnW w' w.heap.size ao' cap l ∧ Below w.heap.size w w' := by
  have q43 : ∀ (w : World) (a : Option Addr) (n c n' c' : Nat), (binOp .eql 43 (.slice a n c) (.slice none n' c')).run Try.prog w = .ok (.bool a.isNone) w := fun w a n c n' c' => Lib.run_eql_slice_nil w _ _ a n c n' c' Try.underlying43
  cases ao with
  | none =>
    have h0 : l = [] := by
      cases l with
      | nil => rfl
      | cons x l => obtain ⟨b, o, e, _⟩ := hl 0 (by simp); cases e
    subst h0
    go_enter Try.func55, Try.ntmps55
    go_wp2
    go_ret
    exact ⟨none, 0, rfl, World.ownsRow_nil _ _ _ _, Below.refl _ _⟩
  | some a =>
    obtain ⟨i0, hi, hz0, hz1, hz2⟩ := info_parts Try.info33
    have hr := (rdV_of hl)
    have hr' : RdV (w.alloc (.cells #[] 33)) (some a) (l.map (Value.int .u64)) := fun j u hu => by
      obtain ⟨b, o, e, hc⟩ := hr j u hu
      exact ⟨b, o, e, by rw [World.cell?_alloc_past _ _ _ (World.block_lt_of_cell? w _ hc)]; exact hc⟩
    have H := Lib.hid hr'
    clear hr hr'
    go_enter Try.func55, Try.ntmps55
    go_wp2_with (at_builtin; refine wpList_append_src rfl (.tmp 5) (.tmp 6) 43 rfl w.heap.size 33 i0 (.int .u64 0) 8 Try.underlying43 hi hz0 hz1 hz2 rfl (.slice (some ⟨w.heap.size, 0, none⟩) 0 0) 0 [] rfl (World.ownsRow_made _ _ _ (Nat.le_refl _) (by simp [maxLen]) rfl) (some a) c l.length (l.map (Value.int .u64)) (by simp) rfl H.out (one_cells l) (by simp only [maxLen]; omega) (by omega) (by simp) ?_; intro v1 w1 hown1 hgrow1 hnil1 hloc1)
    go_ret
    simp only [Nat.zero_add, List.nil_append] at hown1
    obtain ⟨_, ao', cap, rfl, hown⟩ := own_shape hown1
    have hb : Below w.heap.size w w1 := ((Below.refl _ _).alloc (Nat.le_refl _) _).grown hgrow1 (by simp) (fun k hk => by simp [Value.ownBlock] at hk; omega)
    exact ⟨ao', cap, rfl, hown, hb⟩

theorem grownBy_trans {a b c : World} {g : Nat} (h : a.grownBy b (some g)) (k : b.grownBy c (some g)) : a.grownBy c (some g) :=
  ⟨k.os.trans h.os, k.tape.trans h.tape, k.output.trans h.output, Nat.le_trans h.size k.size, fun i hi hne => (k.block i (Nat.lt_of_lt_of_le hi h.size) hne).trans (h.block i hi hne)⟩
end Go.Proofs.Ytkpfnonacebmkaa
