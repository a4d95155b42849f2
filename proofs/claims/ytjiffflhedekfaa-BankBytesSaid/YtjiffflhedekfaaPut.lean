/- slices.AppendSeq, slices.Collect over the digits; codec.Put. -/
import Derived.Test.YtjiffflhedekfaaDig
import Derived.Maps.AppendAt
namespace Go.Proofs.Ytjiffflhedekfaa
open Go.RowKit Go.Shelf
attribute [local go_sem] Oper.semAt_some

theorem Try.info5 : (Try.prog.info? 5).map (fun i => (i.zero, i.size, i.bytes)) = some (some (.int .u8 0), 1, 1) := by kernel_rfl

/-- Between two rounds: the slice's box, what has come so far; the iterator's variable. -/
def ApI (w : World) (Bn Bs : Nat) (pre : List Int) (W : World) : Prop :=
  (∃ v, Boxed W Bs 43 v ∧ W.ownsRow Bn 5 1 v pre.length (pre.map (Value.int .u8)) ∧ (v = .slice none 0 0 ↔ pre = [])) ∧ (∃ u, Boxed W Bn 23 u) ∧ Below Bn w W

theorem ApI.own (w : World) (Bn Bs B : Nat) (hn : Bn ≤ w.heap.size) (h : Bn < B) (hs : w.heap.size ≤ B) : OwnFrom B (ApI w Bn Bs) := by
  rintro s X Y row ⟨h1, ⟨u, hu⟩, h3⟩ hg hr
  refine ⟨holdsRow_own Bn Bs 43 5 1 (fun pre : List Int => pre.length) (fun pre => pre.map (Value.int .u8)) (fun pre v => v = .slice none 0 0 ↔ pre = []) s X Y row h1 hg (fun r e => (hr r e).2), ⟨u, hu.kept hg (fun e => by have := (hr _ e.symm).1; omega)⟩, ?_⟩
  exact h3.grown hg (Nat.le_trans hn h3.size) (fun k e => by have := (hr _ e).1; omega)
theorem ApI.cell {w : World} {Bn Bs : Nat} (hne : Bs ≠ Bn) {pre : List Int} {W : World} (h : ApI w Bn Bs pre W) (v : Value) : ApI w Bn Bs pre (W.setCell ⟨Bn, 0, none⟩ v) := by
  obtain ⟨⟨u, hu, hr, hn⟩, ⟨x, hx⟩, hB⟩ := h
  have hg := grownBy_setCell' W Bn v
  refine ⟨⟨u, hu.kept hg (by simpa using hne), hr.kept hg (.inr (hx.not_row (by decide) hr).symm), hn⟩, ⟨v, hx.set v⟩, hB.setCell (p := ⟨Bn, 0, none⟩) (Nat.le_refl _) v⟩

set_option maxRecDepth 100000 in
set_option maxHeartbeats 2000000 in
/-- slices.AppendSeq(nil, seq), the iterator's variable in block Bn. -/
theorem appendSeq_in (F : Fence) (n : Nat) (h90 : F.fn 90) (gf : Nat) (hgf : F.fn gf) (eg : ∀ args w, (callFunc gf args).run Try.prog w = .ok (.enter gf args) w) (hro : F.round = none) (hn : 3 ≤ n) (Bn : Nat) (u : Value) (lb : Array Value) (ys : List Int) (hlen : ys.length ≤ 1000) (w : World) (hB : Boxed w Bn 23 u)
    (hseq : SeqCell F (n - 1) Try.prog gf lb (Value.int .u8) Bn ys w) :
    CallsIn F n Try.prog 90 #[.slice none 0 0, .func (.func gf) #[] lb] w fun e W' => ∃ v, e = .returned v ∧ W'.ownsRow Bn 5 1 v ys.length (ys.map (Value.int .u8)) ∧ (v = .slice none 0 0 ↔ ys = []) ∧ Below Bn w W' := by
  have h1 : 1 ≤ n := by omega
  obtain ⟨i0, hi, hz0, hz1, hz2⟩ := info_parts Try.info5
  have hlt := hB.lt
  refine callsIn_of_wp_marks Try.func90 rfl h90 ?_ hro
  simp only [Try.ntmps90, List.size_toArray, List.length_cons, List.length_nil, Nat.reduceAdd, Nat.reduceSub, Array.replicate_succ, Array.replicate_zero, List.push_toArray, List.append_toArray, List.nil_append, List.cons_append]
  gi_wp2
  have bS := Boxed.new w 43 (.slice none 0 0)
  refine wpIn_range_cell hro h1 (gf := gf) (lb := lb) rfl hgf eg hseq ((Below.refl _ w).alloc (Nat.le_refl _) _) rfl (by simp; omega)
    (ApI w Bn w.heap.size) (ApI.own w Bn w.heap.size _ (by omega) (by simp; omega) (by simp)) (fun _ _ v h => h.cell (by omega) v)
    ⟨⟨_, bS, World.ownsRow_nil _ _ _ _, by simp⟩, ⟨u, hB.alloc _⟩, (Below.refl Bn w).alloc (by omega) _⟩
    (fun x => { tmps := #[.slice none 0 0, .func (.func gf) #[] lb, .pointer (some ⟨w.heap.size, 0, none⟩), undef, .slice none 0 0, .int .u8 x, .func (.func gf) #[] lb, .int .u8 x, undef, undef, undef, undef, undef], defers := [] }) ?assign ?body ?done
  case assign =>
    intro l x W K hK
    gi_wp2
    exact hK
  case body =>
    rintro l pre x W ⟨⟨v, hv, hrow, hnil⟩, ⟨y, hy⟩, hBW⟩ hpl
    have hc := hv.cell
    have hBs := hBW.size
    have hvo := hy.not_row (by decide) hrow
    gi_wp2_with (gi_at_builtin; refine wpListIn_append_own _ rfl _ _ 43 rfl Bn 5 i0 (.int .u8 0) 1 1 Try.underlying43 hi hz0 hz1 hz2 rfl (by decide) _ _ _ rfl (hrow.alloc _) ⟨W.heap.size, 0, none⟩ 1 1 [.int .u8 x] rfl rfl (cell_one_new _ _ _) (by simp [Value.oneCell']) (by simp only [maxLen]; omega) (by omega) (by simp; omega) ?_; intro v' w1 hown' hgrow _; obtain ⟨g', cap', rfl⟩ := ownsRow_succ hown'; obtain ⟨hv1, hv2, hr2, hk2, hb2⟩ := hv.appended (by decide) hrow (by omega) (by omega) hown' hgrow; have hc1 := hv1.cell; have hf1 := hv1.frozen)
    have hkn : (w1.setCell ⟨w.heap.size, 0, none⟩ (.slice (some ⟨g', 0, none⟩) (pre.length + 1) cap')).heap[Bn]? = W.heap[Bn]? :=
      (Below.heap_setCell _ _ _ _ (by simp only; omega)).trans ((hgrow.block Bn (by simp; omega) hvo).trans (Below.heap_alloc W _ Bn (by omega)))
    refine ⟨hk2.from _, hkn, ⟨_, hv2, by simpa using hr2, by simp⟩, ⟨y, hkn.trans hy⟩, hBW.trans hb2⟩
  case done =>
    rintro D W hD ⟨⟨v, hv, hrow, hnil⟩, _, hBW⟩ hK
    have hc := hv.cell
    gi_wp2
    refine ⟨by simp, .inl ⟨_, _, rfl, run_takeDeferred hK, ?_⟩⟩
    exact ⟨_, results_tmp rfl _ _ _, v, rfl, ownsRow_putObj hrow _ hK rfl, hnil, hBW.trans (belowK_b (w := w) (by omega) W D _ _ (by simp at hD; omega) hK rfl rfl)⟩

set_option maxRecDepth 100000 in
set_option maxHeartbeats 2000000 in
theorem collect_in (F : Fence) (n : Nat) (h76 : F.fn 76) (h90 : F.fn 90) (gf : Nat) (hgf : F.fn gf) (eg : ∀ args w, (callFunc gf args).run Try.prog w = .ok (.enter gf args) w) (hro : F.round = none) (hn : 4 ≤ n) (Bn : Nat) (u : Value) (lb : Array Value) (ys : List Int) (hlen : ys.length ≤ 1000) (w : World) (hB : Boxed w Bn 23 u)
    (hseq : SeqCell F (n - 1 - 1) Try.prog gf lb (Value.int .u8) Bn ys w) :
    CallsIn F n Try.prog 76 #[.func (.func gf) #[] lb] w fun e W' => ∃ v, e = .returned v ∧ W'.ownsRow Bn 5 1 v ys.length (ys.map (Value.int .u8)) ∧ (v = .slice none 0 0 ↔ ys = []) ∧ Below Bn w W' := by
  have h1 : 1 ≤ n := by omega
  have HA := Lib.hid (appendSeq_in F (n - 1) h90 gf hgf eg hro (by omega) Bn u lb ys hlen w hB hseq)
  clear hseq hB
  refine callsIn_of_wp Try.func76 rfl h76 ?_ hro
  simp only [Try.ntmps76, List.size_toArray, List.length_cons, List.length_nil, Nat.reduceAdd, Nat.reduceSub, Array.replicate_succ, Array.replicate_zero, List.push_toArray, List.append_toArray, List.nil_append, List.cons_append]
  gi_wp2_with (gi_at_call 90; refine HA.out.mono ?_; rintro e w' ⟨v, rfl, hR⟩)
  go_ret
  exact ⟨v, rfl, hR⟩

/-- These bytes lie in memory of the call's own. -/
def OwnB (w : World) (base : Nat) (v : Value) (l : List Int) : Prop := w.ownsRow base 5 1 v l.length (l.map (Value.int .u8))

theorem putF_len (f : Nat) (n : Int) : (putF f n).length ≤ f + 1 := by
  induction f generalizing n with
  | zero => simp [putF]
  | succ f ih => rw [putF]; split <;> simp; have := ih (n / 128); omega
theorem putF_pos (f : Nat) (n : Int) : putF f n ≠ [] := by
  cases f with
  | zero => simp [putF]
  | succ f => rw [putF]; split <;> simp

set_option maxRecDepth 100000 in
set_option maxHeartbeats 2000000 in
/-- codec.Put. -/
theorem put_any (n : Int) (hn : W64 n) (w : World) :
    Calls Try.prog 57 #[.int .u64 n] w fun e w' => ∃ g cap, e = .returned (.slice (some ⟨g, 0, none⟩) (putL n).length cap) ∧ OwnB w' w.heap.size (.slice (some ⟨g, 0, none⟩) (putL n).length cap) (putL n) ∧ Below w.heap.size w w' := by
  refine (callsIn_wide (n := 6)).1 ?_
  have h57 : Fence.wide.fn 57 := trivial
  have h77 : Fence.wide.fn 77 := trivial
  have h76 : Fence.wide.fn 76 := trivial
  have h90 : Fence.wide.fn 90 := trivial
  have h91 : Fence.wide.fn 91 := trivial
  have h6 : 1 ≤ 6 := by omega
  have hD : CallsIn Fence.wide (6 - 1) Try.prog 77 #[.int .u64 n] w fun e w' => e = .returned (.func (.func 91) #[] #[.pointer (some ⟨w.heap.size, 0, none⟩)]) ∧ w' = w.alloc (.cells #[.int .u64 n] 23) := by
    refine callsIn_of_wp Try.func77 rfl h77 ?_ rfl
    simp only [Try.ntmps77, List.size_toArray, List.length_cons, List.length_nil, Nat.reduceAdd, Nat.reduceSub, Array.replicate_succ, Array.replicate_zero, List.push_toArray, List.append_toArray, List.nil_append, List.cons_append]
    gi_wp2
    go_ret
    exact ⟨rfl, rfl⟩
  have hl : (putL n).length ≤ 10 := putF_len 9 n
  have bN := Boxed.new w 23 (.int .u64 n)
  have HC := Lib.hid (collect_in Fence.wide (6 - 1) h76 h90 91 h91 (enters_of Try.func91 (by kernel_rfl) rfl) rfl (by omega) w.heap.size _ _ (putL n) (by omega) _ bN (digits_cell Fence.wide (6 - 1 - 1 - 1) h91 rfl (by omega) w.heap.size n hn _ bN))
  have HD := Lib.hid hD
  have hl0 : (putL n).length ≠ 0 := by
    have := putF_pos 9 n
    intro e
    exact this (List.eq_nil_of_length_eq_zero e)
  clear hD bN
  refine callsIn_of_wp Try.func57 rfl h57 ?_ rfl
  simp only [Try.ntmps57, List.size_toArray, List.length_cons, List.length_nil, Nat.reduceAdd, Nat.reduceSub, Array.replicate_succ, Array.replicate_zero, List.push_toArray, List.append_toArray, List.nil_append, List.cons_append]
  gi_wp2_with (first | (gi_at_call 77; refine HD.out.mono ?_; rintro e w' ⟨rfl, rfl⟩) | (gi_at_call 76; refine HC.out.mono ?_; rintro e w' ⟨v, rfl, hR⟩))
  go_ret
  obtain ⟨hown, hnil, hb⟩ := hR
  have hv : ∃ g cap, v = .slice (some ⟨g, 0, none⟩) (putL n).length cap := by
    rcases hown.2 with ⟨_, h0⟩ | ⟨g, cap, _, rfl, _⟩
    · exact absurd h0 hl0
    · exact ⟨g, cap, rfl⟩
  obtain ⟨g, cap, rfl⟩ := hv
  exact ⟨g, cap, rfl, hown, ((Below.refl _ _).alloc (Nat.le_refl _) _).trans hb⟩
end Go.Proofs.Ytjiffflhedekfaa
