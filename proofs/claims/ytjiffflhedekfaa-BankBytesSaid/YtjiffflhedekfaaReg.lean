/- A region that draws its order: operations that leave the class of worlds alone (loads, arithmetic, calls that tell one value), then a tail in one forced order. -/
import Derived.Deep.Quiet
import Derived.StillTail
import Derived.KernelRfl
namespace Go.Proofs.Ytjiffflhedekfaa
variable {P : Program} {C : World → Prop}

theorem any_more {md : Region.Mode} {ops : Array Oper} {Q : Exit → Act → World → Prop} : ∀ (f : Nat) (listed : Array Bool) (a : Act) (w : World), wpAny P md ops Q f listed a w → wpAny P md ops Q (f + 1) listed a w
  | 0, listed, a, w, h => ⟨fun _ => h.2, fun i hi => by rw [h.1] at hi; cases hi⟩
  | f + 1, listed, a, w, h => ⟨h.1, fun i hi => wpOp_mono (fun a' w' h' => any_more f _ a' w' h') (h.2 i hi)⟩
theorem any_more' {md : Region.Mode} {ops : Array Oper} {Q : Exit → Act → World → Prop} {f : Nat} {listed : Array Bool} {a : Act} {w : World} (h : wpAny P md ops Q f listed a w) : ∀ k, wpAny P md ops Q (k + f) listed a w
  | 0 => by rw [Nat.zero_add]; exact h
  | k + 1 => by rw [show k + 1 + f = (k + f) + 1 by omega]; exact any_more _ _ _ _ (any_more' h k)

theorem getD_app {A B : Array Bool} {i : Nat} (d : Bool) (h : i < A.size) : (A ++ B).getD i d = A.getD i d := by
  simp [Array.getElem?_append_left h]
theorem set_app {A B : Array Bool} {i : Nat} (h : i < A.size) : (A ++ B).setIfInBounds i true = A.setIfInBounds i true ++ B := by
  apply Array.ext_getElem?
  intro j
  by_cases hij : i = j
  · subst hij
    rw [Array.getElem?_setIfInBounds_self_of_lt (by simp; omega), Array.getElem?_append_left (by simpa using h), Array.getElem?_setIfInBounds_self_of_lt h]
  · rw [Array.getElem?_setIfInBounds_ne hij]
    by_cases hj : j < A.size
    · rw [Array.getElem?_append_left hj, Array.getElem?_append_left (by simpa using hj), Array.getElem?_setIfInBounds_ne hij]
    · rw [Array.getElem?_append_right (by omega), Array.getElem?_append_right (by simp; omega)]
      simp

/-- Each edge of one of the first n operations leads to an earlier one. -/
def upB (ops : List Oper) (n : Nat) : Bool := (List.range n).all fun i => match ops[i]? with | some o => o.after.all fun e => !Region.binds .any e || decide (e.on < i) | none => false
theorem up_spec {l : List Oper} {n : Nat} (h : upB l n = true) {i : Nat} (hi : i < n) {o : Oper} (ho : l[i]? = some o) {e : Edge} (he : e ∈ o.after) (hb : Region.binds .any e = true) : e.on < i := by
  have h1 := List.all_eq_true.1 h i (List.mem_range.2 hi)
  simp only [ho] at h1
  have h2 := Array.all_eq_true_iff_forall_mem.1 h1 e he
  simpa [hb] using h2

section
variable {l : List Oper} {n : Nat} {listed : Array Bool} {g : Nat}
theorem head_op (hn : n ≤ l.length) {i : Nat} (hi : i < n) : (l.take n).toArray[i]? = l.toArray[i]? := by
  simp [List.getElem?_take, hi]
theorem ready_head (hn : n ≤ l.length) (hu : upB l n = true) (hs : listed.size = n) {i : Nat} (hi : i < n) :
    i ∈ Region.ready .any l.toArray (listed ++ Array.replicate g false) ↔ i ∈ Region.ready .any (l.take n).toArray listed := by
  rw [mem_ready, mem_ready, getD_app true (by omega), head_op hn hi]
  constructor
  · rintro ⟨h0, o, ho, h⟩
    exact ⟨h0, o, ho, fun e he hb => by
      have := up_spec hu hi (by simpa using ho) he hb
      rw [← getD_app (B := Array.replicate g false) false (by omega)]; exact h e he hb⟩
  · rintro ⟨h0, o, ho, h⟩
    exact ⟨h0, o, ho, fun e he hb => by
      have := up_spec hu hi (by simpa using ho) he hb
      rw [getD_app (B := Array.replicate g false) false (by omega)]; exact h e he hb⟩
theorem all_listed (hn : n ≤ l.length) (hu : upB l n = true) (hs : listed.size = n) (hr : Region.ready .any (l.take n).toArray listed = []) : listed = Array.replicate n true := by
  have h : ∀ i, i < n → listed.getD i true = true := by
    intro i
    induction i using Nat.strongRecOn with
    | _ i ih =>
      intro hi
      cases hl : listed.getD i true with
      | true => rfl
      | false =>
        have : i ∈ Region.ready .any (l.take n).toArray listed := mem_ready.2 ⟨hl, l[i]'(by omega), by rw [head_op hn hi]; simp [show i < l.length by omega], fun e he hb => by
          have hlt := up_spec hu hi (List.getElem?_eq_getElem (by omega)) he hb
          have h1 := ih e.on hlt (by omega)
          have hsz : e.on < listed.size := by omega
          simp [hsz] at h1 ⊢
          exact h1⟩
        rw [hr] at this
        cases this
  apply Array.ext
  · simp [hs]
  · intro i h1 h2
    have := h i (by omega)
    simpa [h1] using this
theorem yielded_head (hn : n ≤ l.length) {o : Oper} {i : Nat} (ho : l[i]? = some o) (hgd : (match o.guard with | some (j, _) => decide (j < n) | none => true) = true) (tmps : Array Value) :
    Region.wanted o (yielded (l.take n).toArray tmps) = Region.wanted o (yielded l.toArray tmps) := by
  unfold Region.wanted
  cases hg : o.guard with
  | none => rfl
  | some jw =>
    obtain ⟨j, b⟩ := jw
    rw [hg] at hgd
    have hj : j < n := by simpa using hgd
    simp only [yielded, head_op hn hj]
def guardB (ops : List Oper) (n : Nat) : Bool := (List.range n).all fun i => match ops[i]? with | some o => (match o.guard with | some (j, _) => decide (j < n) | none => true) | none => false
theorem guard_spec (h : guardB l n = true) {i : Nat} (hi : i < n) {o : Oper} (ho : l[i]? = some o) : (match o.guard with | some (j, _) => decide (j < n) | none => true) = true := by
  have h1 := List.all_eq_true.1 h i (List.mem_range.2 hi)
  simp only [ho] at h1
  exact h1

theorem bridge {Q : Exit → Act → World → Prop} (hn : n < l.length) (hu : upB l n = true) (hgb : guardB l n = true) (hk : Region.sinkB .any l.toArray n = true) (hc : Region.chainB .any l.toArray n = true)
    (hq : Region.seqB .any l.toArray (l.length - n) n (Array.replicate n true ++ Array.replicate (l.length - n) false) = true) :
    ∀ (f : Nat) (listed : Array Bool) (a : Act) (w : World), listed.size = n → HeadInv .any l.toArray n (listed ++ Array.replicate (l.length - n) false) → C w →
      wpAnyQ P .any (l.take n).toArray C (fun a' => ∀ w', C w' → wpList P l.toArray Q (l.drop n) a' w') f listed a → wpAny P .any l.toArray Q (f + (l.length - n)) (listed ++ Array.replicate (l.length - n) false) a w := by
  have done : ∀ (f : Nat) (listed : Array Bool) (a : Act) (w : World), listed.size = n → C w → Region.ready .any (l.take n).toArray listed = [] → (∀ w', C w' → wpList P l.toArray Q (l.drop n) a w') →
      wpAny P .any l.toArray Q (f + (l.length - n)) (listed ++ Array.replicate (l.length - n) false) a w := by
    intro f listed a w hs hC hr h
    rw [all_listed (by omega) hu hs hr]
    refine any_more' ?_ f
    have := wpAny_of_seq (md := .any) (Q' := Q) (P := P) (ops := l.toArray) (l.drop n) n (Array.replicate n true ++ Array.replicate (l.length - n) false) a w (fun j => by simp [List.getElem?_drop]) (by simpa using hq) (h w hC)
    simpa using this
  intro f
  induction f with
  | zero => intro listed a w hs _ hC h; exact done 0 listed a w hs hC h.1 h.2
  | succ f ih =>
    intro listed a w hs inv hC h
    by_cases hr : Region.ready .any (l.take n).toArray listed = []
    · exact done (f + 1) listed a w hs hC hr (h.1 hr)
    · obtain ⟨i0, hi0⟩ := List.exists_mem_of_ne_nil _ hr
      have hi0n : i0 < n := by
        obtain ⟨_, o, ho, _⟩ := mem_ready.1 hi0
        have := (Array.getElem?_eq_some_iff.1 ho).1
        simp at this; omega
      have hun : (listed ++ Array.replicate (l.length - n) false).getD i0 true = false := by
        rw [getD_app true (by omega)]; exact (mem_ready.1 hi0).1
      have hnot := tail_waits hk hc (by simpa using hn) inv _ i0 rfl hi0n hun
      rw [show f + 1 + (l.length - n) = (f + (l.length - n)) + 1 by omega]
      refine ⟨fun h0 => ?_, fun i hi => ?_⟩
      · have := (ready_head (g := l.length - n) (by omega) hu hs hi0n).2 hi0
        rw [h0] at this
        cases this
      · have hin : i < n := by
          rcases Nat.lt_or_ge i n with h' | h'
          · exact h'
          · exact absurd hi (hnot i h')
        have hih := (ready_head (g := l.length - n) (by omega) hu hs hin).1 hi
        have hqo := h.2 i hih
        have hstep : ∀ a' w', C w' → wpAnyQ P .any (l.take n).toArray C (fun a' => ∀ w', C w' → wpList P l.toArray Q (l.drop n) a' w') f (listed.setIfInBounds i true) a' →
            wpAny P .any l.toArray Q (f + (l.length - n)) ((listed ++ Array.replicate (l.length - n) false).setIfInBounds i true) a' w' := fun a' w' hC' hh => by
          have inv' := inv.set hi hin
          rw [set_app (by omega)] at inv' ⊢
          exact ih (listed.setIfInBounds i true) a' w' (by simpa using hs) inv' hC' hh
        have hl : l[i]? = some (l[i]'(by omega)) := List.getElem?_eq_getElem (by omega)
        have hgd := guard_spec hgb hin hl
        unfold qOp at hqo
        rw [head_op (by omega) hin] at hqo
        unfold wpOp
        simp only [List.getElem?_toArray, hl] at hqo ⊢
        rw [yielded_head (by omega) hl hgd] at hqo
        split at hqo
        · rename_i hw
          rw [if_pos hw]
          exact .inl (Oper.wp_of_quiet hC hstep hqo)
        · rename_i hw
          rw [if_neg hw]
          exact hstep _ _ hC hqo
end

/-- All that is asked of the edges. -/
def tailB (l : List Oper) (n : Nat) : Bool :=
  decide (n < l.length) && upB l n && guardB l n && Region.sinkB .any l.toArray n && Region.chainB .any l.toArray n &&
  Region.seqB .any l.toArray (l.length - n) n (Array.replicate n true ++ Array.replicate (l.length - n) false) && Region.lexB .any (l.take n).toArray

/-- One walk in the text's order, the tail behind it. -/
theorem wp_region_tail {id : Nat} {Q : Exit → Act → World → Prop} {a : Act} {w : World} {l : List Oper} (n : Nat) (C : World → Prop) (hm : P.follows .mixedOrders = true) (hB : tailB l n = true) (hC : C w.drew)
    (h : wpQuiet P (l.take n).toArray C (fun a' => ∀ w', C w' → wpList P l.toArray Q (l.drop n) a' w') (l.take n) a) : (Code.region id l.toArray true).wp P Q a w := by
  simp only [tailB, Bool.and_eq_true, decide_eq_true_eq] at hB
  obtain ⟨⟨⟨⟨⟨⟨hn, hu⟩, hg⟩, hk⟩, hc⟩, hq⟩, hx⟩ := hB
  simp only [Region.lexB, Bool.and_eq_true] at hx
  refine wp_region_any hm ?_
  have hlen : (l.take n).length = n := by simp; omega
  have h1 := wpAnyQ_lex (C := C) (md := .any) hx.1 (l.take n) 0 (Array.replicate n false) a (by simp) (by have := hx.2; simpa [hlen] using this) h
  rw [hlen] at h1
  have h2 := bridge hn hu hg hk hc hq n (Array.replicate n false) a w.drew (by simp) ⟨by simp; omega, (fun j oj _ hl => by
    have : (Array.replicate n false ++ Array.replicate (l.length - n) false).getD j false = false := by
      rw [Array.replicate_append_replicate]; exact getD_replicate_false _ _
    rw [this] at hl; cases hl), fun t ht ht' => getD_in (by simp at ht' ⊢; omega) (by rw [Array.replicate_append_replicate]; exact getD_replicate_false _ _)⟩ hC h1
  rw [Array.replicate_append_replicate, show n + (l.length - n) = l.length by omega] at h2
  simpa using h2
end Go.Proofs.Ytjiffflhedekfaa
