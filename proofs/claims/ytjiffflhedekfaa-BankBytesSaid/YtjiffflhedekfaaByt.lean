/- Lists of bytes: SameBytes, CopyBytes, slices.Clone, OverBytes. -/
import Derived.Test.YtjiffflhedekfaaPut
import Derived.Test.YtjiffflhedekfaaApp
import Derived.Test.YtjiffflhedekfaaCopy
import Derived.Laws.BytesArg
import Derived.WideShapes
import Derived.Laws.Strings
import Derived.Laws.BitsAllLaws
namespace Go.Proofs.Ytjiffflhedekfaa
open Go.RowKit

/-- A list of bytes. -/
def Bs (l : List Int) : Prop := ∀ x ∈ l, 0 ≤ x ∧ x < 256
theorem Bs.nil : Bs [] := fun _ h => by simp at h
theorem Bs.append {a b : List Int} (ha : Bs a) (hb : Bs b) : Bs (a ++ b) := fun x hx => by
  rcases List.mem_append.1 hx with h | h
  · exact ha _ h
  · exact hb _ h
theorem Bs.at {l : List Int} (h : Bs l) {k : Nat} (hk : k < l.length) : 0 ≤ l.getD k 0 ∧ l.getD k 0 < 256 := by
  rw [getD_at hk]; exact h _ (List.getElem_mem hk)
theorem Bs.take {l : List Int} (h : Bs l) (k : Nat) : Bs (l.take k) := fun x hx => h x (List.mem_of_mem_take hx)
theorem Bs.drop {l : List Int} (h : Bs l) (k : Nat) : Bs (l.drop k) := fun x hx => h x (List.mem_of_mem_drop hx)
theorem putF_bs (f : Nat) (n : Int) (h : 0 ≤ n) (hn : n < 2 * 128 ^ f) : Bs (putF f n) := by
  induction f generalizing n with
  | zero => intro x hx; simp [putF] at hx; subst hx; simp at hn; omega
  | succ f ih =>
    rw [putF]
    split
    · intro x hx
      rcases List.mem_cons.1 hx with rfl | hx
      · omega
      · exact ih (n / 128) (by omega) (pow_step hn) x hx
    · intro x hx; simp at hx; subst hx; omega
theorem putL_bs {n : Int} (h : W64 n) : Bs (putL n) := putF_bs 9 n h.1 (by have := h.2; omega)

/-- A slice's elements are these bytes. -/
def Rb (w : World) (ao : Option Addr) (l : List Int) : Prop :=
  ∀ k, k < l.length → ∃ b o, ao = some ⟨b, o, none⟩ ∧ w.cell? ⟨b, o + k, none⟩ = some (.int .u8 (l.getD k 0))
theorem Rb.below {w w' : World} {ao : Option Addr} {l : List Int} (h : Rb w ao l) (hb : Below w.heap.size w w') : Rb w' ao l := fun k hk => by
  obtain ⟨b, o, h1, h2⟩ := h k hk
  exact ⟨b, o, h1, (hb.cell (p := ⟨b, o + k, none⟩) (World.block_lt_of_cell? w _ h2)).trans h2⟩
theorem Rb.alloc {w : World} {ao : Option Addr} {l : List Int} (h : Rb w ao l) (o : Obj) : Rb (w.alloc o) ao l := h.below ((Below.refl _ _).alloc (Nat.le_refl _) o)
theorem Rb.nil (w : World) (ao : Option Addr) : Rb w ao [] := fun k h => by simp at h

/-- These bytes lie in memory of the call's own. -/
def OwnY (w : World) (base : Nat) (ao : Option Addr) (cap : Nat) (l : List Int) : Prop :=
  w.ownsRow base 5 1 (.slice ao l.length cap) l.length (l.map (Value.int .u8))
theorem ownY_shape {w : World} {base : Nat} {v : Value} {n : Nat} {l : List Int} (h : w.ownsRow base 5 1 v n (l.map (Value.int .u8))) : n = l.length ∧ ∃ ao cap, v = .slice ao l.length cap ∧ OwnY w base ao cap l := by
  have hn : n = l.length := by have := h.1; simpa using this.symm
  subst hn
  refine ⟨rfl, ?_⟩
  rcases h.2 with ⟨rfl, h0⟩ | ⟨g, cap, cur, rfl, _⟩
  · exact ⟨none, 0, by rw [h0], by unfold OwnY; rw [h0] at h ⊢; exact h⟩
  · exact ⟨_, _, rfl, h⟩
theorem OwnY.rb {w : World} {base : Nat} {ao : Option Addr} {cap : Nat} {l : List Int} (h : OwnY w base ao cap l) : Rb w ao l := fun k hk => by
  rcases h.2 with ⟨h1, h0⟩ | ⟨g, cap', cur, h1, _, hg, _, _, _, ht⟩
  · omega
  · simp only [Value.slice.injEq, true_and] at h1
    obtain ⟨rfl, rfl⟩ := h1
    refine ⟨g, 0, rfl, ?_⟩
    have := World.ownsRow.cellAt h k (by omega)
    rw [Nat.zero_add, this, List.getElem?_map, List.getElem?_eq_getElem hk, getD_at hk]
    rfl
theorem OwnY.mono {w : World} {base base' : Nat} {ao : Option Addr} {cap : Nat} {l : List Int} (h : OwnY w base ao cap l) (hb : base' ≤ base) : OwnY w base' ao cap l :=
  ⟨h.1, h.2.imp id fun ⟨g, cap, cur, h1, h2, r⟩ => ⟨g, cap, cur, h1, Nat.le_trans hb h2, r⟩⟩
theorem OwnY.below {w w' : World} {base : Nat} {ao : Option Addr} {cap : Nat} {l : List Int} (h : OwnY w base ao cap l) (hb : Below w.heap.size w w') : OwnY w' base ao cap l :=
  ⟨h.1, h.2.imp id fun ⟨g, cap, cur, h1, h2, h3, r⟩ => ⟨g, cap, cur, h1, h2, (hb.block g (lt_of_block h3)).trans h3, r⟩⟩
theorem OwnY.alloc {w : World} {base : Nat} {ao : Option Addr} {cap : Nat} {l : List Int} (h : OwnY w base ao cap l) (o : Obj) : OwnY (w.alloc o) base ao cap l := h.below ((Below.refl _ _).alloc (Nat.le_refl _) o)
theorem OwnY.low {w : World} {base : Nat} {ao : Option Addr} {cap : Nat} {l : List Int} (h : OwnY w base ao cap l) : ∀ p, ao = some p → base ≤ p.block ∧ p.block < w.heap.size := fun p hp => by
  subst hp
  rcases h.2 with ⟨h1, _⟩ | ⟨g, cap', cur, h1, hg, h3, _⟩
  · simp at h1
  · simp only [Value.slice.injEq, Option.some.injEq, true_and] at h1
    rw [h1.1]; exact ⟨hg, lt_of_block h3⟩
theorem rbV_of {w : World} {ao : Option Addr} {l : List Int} (h : Rb w ao l) : RdV w ao (l.map (Value.int .u8)) := fun j u hu => by
  rw [List.getElem?_map] at hu
  cases hj : l[j]? with
  | none => rw [hj] at hu; cases hu
  | some x =>
    rw [hj] at hu
    simp at hu
    subst hu
    have hl : j < l.length := by
      rcases Nat.lt_or_ge j l.length with h' | h'
      · exact h'
      · rw [List.getElem?_eq_none h'] at hj; cases hj
    obtain ⟨b, o, e, hc⟩ := h j hl
    rw [getD_at hl] at hc
    rw [List.getElem?_eq_getElem hl] at hj
    cases hj
    exact ⟨b, o, e, hc⟩
theorem oneY_cells (l : List Int) : ∀ u ∈ l.map (Value.int .u8), u.oneCell' = true := fun u hu => by
  obtain ⟨x, _, rfl⟩ := List.mem_map.1 hu
  rfl
theorem rbV_alloc {w : World} {ao : Option Addr} {l : List Int} (h : Rb w ao l) (o : Obj) : RdV (w.alloc o) ao (l.map (Value.int .u8)) := rbV_of (h.alloc o)

set_option maxHeartbeats 400000 in
/-- distraintkit.CopyBytes. -/
theorem copyBytes_any (ao : Option Addr) (l : List Int) (c : Nat) (w : World) (hl : Rb w ao l) (nl : l.length ≤ 140737488355328) :
    Calls Try.prog 25 #[.slice ao l.length c] w fun e w' => ∃ g cap, e = .returned (.slice (some ⟨g, 0, none⟩) l.length cap) ∧ OwnY w' w.heap.size (some ⟨g, 0, none⟩) cap l ∧ Below w.heap.size w w' := by
  obtain ⟨i0, hi, hz0, hz1, hz2⟩ := info_parts Try.info5
  have H := Lib.hid (rbV_alloc hl (.cells #[] 5))
  clear hl
  go_enter Try.func25, Try.ntmps25
  go_wp2_with (at_builtin; refine wpList_append_src rfl (.tmp 3) (.tmp 4) 43 rfl w.heap.size 5 i0 (.int .u8 0) 1 Try.underlying43 hi hz0 hz1 hz2 rfl (.slice (some ⟨w.heap.size, 0, none⟩) 0 0) 0 [] rfl (World.ownsRow_made _ _ _ (Nat.le_refl _) (by simp [maxLen]) rfl) ao c l.length (l.map (Value.int .u8)) (by simp) rfl H.out (oneY_cells l) (by simp only [maxLen]; omega) (by omega) (by simp) ?_; intro v1 w1 hown1 hgrow1 hnil1 hloc1)
  go_ret
  simp only [Nat.zero_add, List.nil_append] at hown1
  obtain ⟨_, ao', cap, rfl, hown⟩ := ownY_shape hown1
  have hb : Below w.heap.size w w1 := ((Below.refl _ _).alloc (Nat.le_refl _) _).grown hgrow1 (by simp) (fun k hk => by simp [Value.ownBlock] at hk; omega)
  rcases hown.2 with ⟨h1, _⟩ | ⟨g, cap', cur, h1, _⟩
  · exact absurd (hnil1.1 h1).1 (by simp)
  · simp only [Value.slice.injEq, true_and] at h1
    obtain ⟨rfl, rfl⟩ := h1
    exact ⟨g, cap, rfl, hown, hb⟩

set_option maxHeartbeats 400000 in
/-- slices.Clone at []byte. -/
theorem cloneB_any (ao : Option Addr) (l : List Int) (c : Nat) (w : World) (hl : Rb w ao l) (nl : l.length ≤ 140737488355328) :
    Calls Try.prog 78 #[.slice ao l.length c] w fun e w' => ∃ ao' cap, e = .returned (.slice ao' l.length cap) ∧ OwnY w' w.heap.size ao' cap l ∧ Below w.heap.size w w' := by
  have q22 : ∀ (w : World) (a : Option Addr) (n c n' c' : Nat), (binOp .eql 43 (.slice a n c) (.slice none n' c')).run Try.prog w = .ok (.bool a.isNone) w := fun w a n c n' c' => Lib.run_eql_slice_nil w _ _ a n c n' c' Try.underlying43
  cases ao with
  | none =>
    have h0 : l = [] := by
      cases l with
      | nil => rfl
      | cons x l => obtain ⟨b, o, e, _⟩ := hl 0 (by simp); cases e
    subst h0
    go_enter Try.func78, Try.ntmps78
    go_wp2
    go_ret
    exact ⟨none, 0, rfl, World.ownsRow_nil _ _ _ _, Below.refl _ _⟩
  | some a =>
    obtain ⟨i0, hi, hz0, hz1, hz2⟩ := info_parts Try.info5
    have H := Lib.hid (rbV_alloc hl (.cells #[] 5))
    clear hl
    go_enter Try.func78, Try.ntmps78
    go_wp2_with (at_builtin; refine wpList_append_src rfl (.tmp 5) (.tmp 6) 43 rfl w.heap.size 5 i0 (.int .u8 0) 1 Try.underlying43 hi hz0 hz1 hz2 rfl (.slice (some ⟨w.heap.size, 0, none⟩) 0 0) 0 [] rfl (World.ownsRow_made _ _ _ (Nat.le_refl _) (by simp [maxLen]) rfl) (some a) c l.length (l.map (Value.int .u8)) (by simp) rfl H.out (oneY_cells l) (by simp only [maxLen]; omega) (by omega) (by simp) ?_; intro v1 w1 hown1 hgrow1 hnil1 hloc1)
    go_ret
    simp only [Nat.zero_add, List.nil_append] at hown1
    obtain ⟨_, ao', cap, rfl, hown⟩ := ownY_shape hown1
    have hb : Below w.heap.size w w1 := ((Below.refl _ _).alloc (Nat.le_refl _) _).grown hgrow1 (by simp) (fun k hk => by simp [Value.ownBlock] at hk; omega)
    exact ⟨ao', cap, rfl, hown, hb⟩

theorem strOfNums_inj {l m : List Int} (hl : Bs l) (hm : Bs m) (h : strOfNums l = strOfNums m) : l = m := by
  have h1 : (l.map fun n => UInt8.ofNat n.toNat) = m.map fun n => UInt8.ofNat n.toNat := by
    have := congrArg (fun s : ByteArray => s.data.toList) h
    simpa only [strOfNums_data] using this
  clear h
  induction l generalizing m with
  | nil => cases m with
    | nil => rfl
    | cons y m => simp at h1
  | cons x l ih =>
    cases m with
    | nil => simp at h1
    | cons y m =>
      simp only [List.map_cons, List.cons.injEq] at h1
      have hx := hl x (by simp)
      have hy := hm y (by simp)
      have e := congrArg UInt8.toNat h1.1
      simp only [UInt8.toNat_ofNat'] at e
      rw [Nat.mod_eq_of_lt (by omega), Nat.mod_eq_of_lt (by omega)] at e
      rw [show x = y by omega, ih (fun z hz => hl z (by simp [hz])) (fun z hz => hm z (by simp [hz])) h1.2]
theorem conv_bytes (ao : Option Addr) (l : List Int) (c : Nat) (w : World) (hl : Rb w ao l) : (convert 43 9 (.slice ao l.length c)).run Try.prog w = .ok (.string (strOfNums l)) w := by
  cases l with
  | nil =>
    cases ao with
    | none => exact run_convert_bytes_nil w 43 5 Try.underlying43 Try.underlying5 0 c 9 Try.underlying9
    | some a =>
      rw [run_convert_bytes_string w 43 9 5 _ _ c Try.underlying43 Try.underlying5 Try.underlying9]
      exact run_bytesToString w a 0 c [] (by simp [loadCells, loadCellsFrom])
  | cons x l =>
    obtain ⟨b, o, rfl, _⟩ := hl 0 (by simp)
    refine run_convert_bytes_arg w 43 5 Try.underlying43 Try.underlying5 b o _ c (x :: l) rfl (fun i hi => ?_) 9 Try.underlying9
    obtain ⟨b', o', e, hc⟩ := hl i hi
    simp only [Option.some.injEq, Addr.mk.injEq, and_true] at e
    obtain ⟨rfl, rfl⟩ := e
    exact hc

set_option maxHeartbeats 400000 in
/-- distraintkit.SameBytes. -/
theorem sameBytes_any (ao bo : Option Addr) (l m : List Int) (c d : Nat) (w : World) (hl : Rb w ao l) (hm : Rb w bo m) (bl : Bs l) (bm : Bs m) :
    Calls Try.prog 28 #[.slice ao l.length c, .slice bo m.length d] w fun e w' => e = .returned (.bool (decide (l = m))) ∧ w = w' := by
  have h1 := conv_bytes ao l c w hl
  have h2 := conv_bytes bo m d w hm
  have HD : Hid (((strOfNums l).toList == (strOfNums m).toList) = decide (l = m)) := Lib.hid (by
    rw [Bool.eq_iff_iff]
    simp only [beq_iff_eq, decide_eq_true_eq, ByteArray.toList_eq]
    refine ⟨fun e => strOfNums_inj bl bm (Go.WideShapes.bytes_inj e), fun e => by rw [e]⟩)
  go_enter Try.func28, Try.ntmps28
  go_wp2
  go_ret
  exact ⟨by rw [← HD.out]; rfl, rfl⟩
end Go.Proofs.Ytjiffflhedekfaa
