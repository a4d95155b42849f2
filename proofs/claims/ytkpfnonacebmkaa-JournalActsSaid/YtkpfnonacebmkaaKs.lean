/- The document's journal as plain data; it and the journal answer alike. -/
import Derived.Test.YtkpfnonacebmkaaKq
namespace Go.Proofs.Ytkpfnonacebmkaa

/-- Cells; the open levels, the topmost first: what the cells were when it was opened, what was touched in it. -/
structure KS where
  C : List Int
  L : List (List Int × List Int)
def KS.touch (L : List (List Int × List Int)) (i : Int) : List (List Int × List Int) :=
  match L with
  | [] => []
  | (w, S) :: L' => (w, S ++ [i]) :: L'
def KS.put (K : KS) (i : Nat) (n : Int) : KS := ⟨K.C.set i n, KS.touch K.L i⟩
def KS.set (K : KS) (i n : Int) : KS × Int := if inB K.C.length i then (K.put i.toNat n, 0) else (K, 3)
def KS.chg (K : KS) (i n : Int) (f : Int → Int → Int × Int) : KS × Int :=
  if inB K.C.length i then (if (f (K.C.getD i.toNat 0) n).2 = 0 then (K.put i.toNat (f (K.C.getD i.toNat 0) n).1, 0) else (K, (f (K.C.getD i.toNat 0) n).2)) else (K, 3)
def KS.move (K : KS) (i k n : Int) : KS × Int :=
  if inB K.C.length i && inB K.C.length k then
    if i = k then (K, 2) else
    if K.C.getD i.toNat 0 < n then (K, 13) else
    if 18446744073709551615 < K.C.getD k.toNat 0 + n then (K, 12) else
    ((K.put i.toNat (K.C.getD i.toNat 0 - n)).put k.toNat (K.C.getD k.toNat 0 + n), 0)
  else (K, 3)
def KS.begin (K : KS) : KS × Int × Int := if 64 ≤ K.L.length then (K, 0, 7) else ({ K with L := (K.C, []) :: K.L }, (K.L.length : Int) + 1, 0)
def KS.keep (K : KS) : KS × Int :=
  match K.L with
  | [] => (K, 11)
  | [_] => (⟨K.C, []⟩, 0)
  | (_, S) :: (w, S') :: L' => (⟨K.C, (w, S' ++ S) :: L'⟩, 0)
def KS.undo (K : KS) : KS × Int :=
  match K.L with
  | [] => (K, 11)
  | (w, _) :: L' => (⟨w, L'⟩, 0)
def KS.undoN : Nat → KS → KS
  | 0, K => K
  | k + 1, K => (KS.undoN k K).undo.1
def KS.back (K : KS) (d : Int) : KS × Int := if d < 0 ∨ (K.L.length : Int) < d then (K, 3) else (KS.undoN (K.L.length - d.toNat) K, 0)
def KS.get (K : KS) (i : Int) : Int × Int := if inB K.C.length i then (K.C.getD i.toNat 0, 0) else (0, 3)
/-- The numbers below N that are in S, rising. -/
def riseK (N : Nat) (S : List Int) : List Int := ((List.range N).filter fun t : Nat => decide ((t : Int) ∈ S)).map fun t : Nat => (t : Int)
def KS.touched (K : KS) : List Int := match K.L with | [] => [] | (_, S) :: _ => riseK K.C.length S
def KS.does (K : KS) (kind i k n : Int) : KS × Int :=
  if kind = 0 then K.set i n else if kind = 1 then K.chg i n addR else if kind = 2 then K.chg i n subR else if kind = 3 then K.move i k n else
  if kind = 4 then (K.begin.1, K.begin.2.2) else if kind = 5 then K.keep else if kind = 6 then K.undo else if kind = 7 then K.back i else (K, 0)
def KS.tot (K : KS) : Nat := (K.L.map fun p => p.2.length).sum

/-- Alike, set by set. -/
def Sm : List (Nat × List Nat) → List (List Int × List Int) → Prop
  | [], [] => True
  | (_, T) :: L, (_, S) :: L' => (∀ x : Int, x ∈ S ↔ ∃ t ∈ T, (t : Int) = x) ∧ Sm L L'
  | _, _ => False
structure JK (J : JS) (K : KS) : Prop where
  c : J.C = K.C
  p : Kp J.C J.U J.L (K.L.map (·.1))
  s : Sm J.L K.L
variable {J : JS} {K : KS}
theorem JK.len (h : JK J K) : J.L.length = K.L.length := by have := h.p.length; simpa using this
theorem JK.new (n : Nat) : JK (JS.new n) ⟨List.replicate n 0, []⟩ := ⟨rfl, trivial, trivial⟩
theorem JK.put (h : JK J K) (i : Nat) (n : Int) : JK (J.put i n) (K.put i n) := by
  have hp := h.p.put i n
  obtain ⟨hc, h2, hs⟩ := h
  obtain ⟨KC, KL⟩ := K
  obtain ⟨JC, JU, JL⟩ := J
  subst hc
  cases KL with
  | nil =>
    cases JL with
    | nil => exact ⟨rfl, hp, trivial⟩
    | cons q L => exact absurd hs (by simp [Sm])
  | cons p KL =>
    cases JL with
    | nil => exact absurd hs (by simp [Sm])
    | cons q L =>
      obtain ⟨w, S⟩ := p
      obtain ⟨m, T⟩ := q
      refine ⟨rfl, hp, fun x => ?_, hs.2⟩
      rw [List.mem_append, hs.1 x, List.mem_singleton]
      constructor
      · rintro (⟨t, h1, h2⟩ | rfl)
        · exact ⟨t, List.mem_cons_of_mem _ h1, h2⟩
        · exact ⟨i, List.mem_cons_self .., rfl⟩
      · rintro ⟨t, h1, rfl⟩
        rcases List.mem_cons.1 h1 with rfl | h1
        · exact .inr rfl
        · exact .inl ⟨t, h1, rfl⟩
theorem JK.begin (h : JK J K) : J.begin.2 = K.begin.2 ∧ JK J.begin.1 K.begin.1 := by
  have hl := h.len
  unfold KS.begin
  by_cases h64 : 64 ≤ K.L.length
  · have e : J.begin = (J, 0, 7) := by unfold JS.begin; rw [if_pos (by omega)]
    rw [e, if_pos h64]; exact ⟨rfl, h⟩
  · have hp := h.p.begin (by omega)
    have e : J.begin = ({ J with L := (J.U.length, []) :: J.L }, (J.L.length : Int) + 1, 0) := by unfold JS.begin; rw [if_neg (by omega)]
    rw [e] at hp ⊢
    rw [if_neg h64, hl]
    refine ⟨rfl, h.c, ?_, ⟨fun x => by simp, h.s⟩⟩
    rw [h.c] at hp; simp only [h.c]; exact hp
theorem JK.keep (h : JK J K) : J.keep.2 = K.keep.2 ∧ JK J.keep.1 K.keep.1 := by
  obtain ⟨hc, hp, hs⟩ := h
  obtain ⟨KC, KL⟩ := K
  obtain ⟨JC, JU, JL⟩ := J
  subst hc
  cases KL with
  | nil =>
    cases JL with
    | nil => exact ⟨rfl, rfl, hp, hs⟩
    | cons q L => exact absurd hs (by simp [Sm])
  | cons p KL =>
    cases JL with
    | nil => exact absurd hs (by simp [Sm])
    | cons q L =>
      have hk := hp.keep (by simp)
      obtain ⟨w, S⟩ := p
      obtain ⟨m, T⟩ := q
      cases KL with
      | nil =>
        cases L with
        | nil => exact ⟨rfl, rfl, trivial, trivial⟩
        | cons q2 L => exact absurd hs.2 (by simp [Sm])
      | cons p2 KL =>
        cases L with
        | nil => exact absurd hs.2 (by simp [Sm])
        | cons q2 L =>
          obtain ⟨w2, S2⟩ := p2
          obtain ⟨m2, T2⟩ := q2
          refine ⟨rfl, rfl, hk, fun x => ?_, hs.2.2⟩
          rw [List.mem_append, hs.2.1 x, hs.1 x]
          constructor
          · rintro (⟨t, h1, h2⟩ | ⟨t, h1, h2⟩)
            · exact ⟨t, List.mem_append_right _ h1, h2⟩
            · exact ⟨t, List.mem_append_left _ h1, h2⟩
          · rintro ⟨t, h1, h2⟩
            rcases List.mem_append.1 h1 with h1 | h1
            · exact .inr ⟨t, h1, h2⟩
            · exact .inl ⟨t, h1, h2⟩
theorem JK.undo (h : JK J K) : J.undo.2 = K.undo.2 ∧ JK J.undo.1 K.undo.1 := by
  obtain ⟨hc, hp, hs⟩ := h
  obtain ⟨KC, KL⟩ := K
  obtain ⟨JC, JU, JL⟩ := J
  cases KL with
  | nil =>
    cases JL with
    | nil => exact ⟨rfl, hc, hp, hs⟩
    | cons q L => exact absurd hs (by simp [Sm])
  | cons p KL =>
    cases JL with
    | nil => exact absurd hs (by simp [Sm])
    | cons q L =>
      obtain ⟨w, S⟩ := p
      obtain ⟨m, T⟩ := q
      obtain ⟨h1, h2, h3⟩ := hp.undo
      exact ⟨h1, h2, h3, hs.2⟩
theorem JK.undoN (h : JK J K) : ∀ k, JK (JS.undoN k J) (KS.undoN k K)
  | 0 => h
  | k + 1 => (h.undoN k).undo.2
theorem JK.back (h : JK J K) (d : Int) : (J.back d).2 = (K.back d).2 ∧ JK (J.back d).1 (K.back d).1 := by
  unfold JS.back KS.back
  rw [h.len]
  split
  · exact ⟨rfl, h⟩
  · exact ⟨rfl, h.undoN _⟩
theorem JK.get (h : JK J K) (i : Int) : J.get i = K.get i := by unfold JS.get KS.get; rw [h.c]
theorem JK.touched (h : JK J K) : J.touched = K.touched := by
  obtain ⟨hc, hp, hs⟩ := h
  obtain ⟨KC, KL⟩ := K
  obtain ⟨JC, JU, JL⟩ := J
  subst hc
  cases KL with
  | nil =>
    cases JL with
    | nil => rfl
    | cons q L => exact absurd hs (by simp [Sm])
  | cons p KL =>
    cases JL with
    | nil => exact absurd hs (by simp [Sm])
    | cons q L =>
      obtain ⟨w, S⟩ := p
      obtain ⟨m, T⟩ := q
      show riseN _ T = riseK _ S
      unfold riseN riseK
      congr 1
      refine List.filter_congr fun t _ => ?_
      have := hs.1 t
      rw [decide_eq_decide, this]
      constructor
      · intro ht; exact ⟨t, ht, rfl⟩
      · rintro ⟨t', h1, h2⟩
        have : t' = t := by omega
        exact this ▸ h1
theorem JK.swap {i k : Nat} {a b : Int} (hne : i ≠ k) (h : JK J ((K.put k b).put i a)) : JK J ((K.put i a).put k b) := by
  obtain ⟨hc, hp, hs⟩ := h
  obtain ⟨KC, KL⟩ := K
  obtain ⟨JC, JU, JL⟩ := J
  refine ⟨?_, ?_, ?_⟩
  · show JC = (KC.set i a).set k b
    rw [List.set_comm _ _ hne]; exact hc
  · cases KL with
    | nil => exact hp
    | cons p KL => exact hp
  · cases KL with
    | nil => exact hs
    | cons p KL =>
      obtain ⟨w, S⟩ := p
      cases JL with
      | nil => exact absurd hs (by simp [KS.put, KS.touch, Sm])
      | cons q L =>
        obtain ⟨m, T⟩ := q
        refine ⟨fun x => ?_, hs.2⟩
        rw [← hs.1 x]
        simp only [List.mem_append, List.mem_singleton]
        constructor <;> (rintro ((h | h) | h) <;> simp [h])
theorem JK.set (h : JK J K) (i n : Int) : (J.set i n).2 = (K.set i n).2 ∧ JK (J.set i n).1 (K.set i n).1 := by
  unfold JS.set KS.set
  rw [h.c]
  split
  · exact ⟨rfl, h.put _ _⟩
  · exact ⟨rfl, h⟩
theorem JK.chg (h : JK J K) (i n : Int) (f : Int → Int → Int × Int) : (J.chg i n f).2 = (K.chg i n f).2 ∧ JK (J.chg i n f).1 (K.chg i n f).1 := by
  unfold JS.chg KS.chg
  rw [h.c]
  split
  · split
    · exact ⟨rfl, h.put _ _⟩
    · exact ⟨rfl, h⟩
  · exact ⟨rfl, h⟩
theorem JK.move (h : JK J K) (i k n : Int) : (J.move i k n).2 = (K.move i k n).2 ∧ JK (J.move i k n).1 (K.move i k n).1 := by
  unfold JS.move KS.move
  rw [h.c]
  split
  · rename_i hb
    split
    · exact ⟨rfl, h⟩
    · rename_i hne
      split
      · exact ⟨rfl, h⟩
      split
      · exact ⟨rfl, h⟩
      · refine ⟨rfl, JK.swap ?_ ((h.put _ _).put _ _)⟩
        rw [Bool.and_eq_true] at hb
        have h1 := inB_of hb.1
        have h2 := inB_of hb.2
        omega
  · exact ⟨rfl, h⟩
theorem JK.does (h : JK J K) (kind i k n : Int) : (J.does kind i k n).2 = (K.does kind i k n).2 ∧ JK (J.does kind i k n).1 (K.does kind i k n).1 := by
  unfold JS.does KS.does
  split
  · exact h.set i n
  split
  · exact h.chg i n addR
  split
  · exact h.chg i n subR
  split
  · exact h.move i k n
  split
  · exact ⟨congrArg Prod.snd h.begin.1, h.begin.2⟩
  split
  · exact h.keep
  split
  · exact h.undo
  split
  · exact h.back i
  exact ⟨rfl, h⟩

/-- How many touches are kept. -/
theorem KS.tot_put (K : KS) (i : Nat) (n : Int) : (K.put i n).tot ≤ K.tot + 1 := by
  obtain ⟨C, L⟩ := K
  cases L with
  | nil => simp [KS.put, KS.touch, KS.tot]
  | cons p L => obtain ⟨w, S⟩ := p; simp [KS.put, KS.touch, KS.tot]; omega
theorem KS.tot_undo (K : KS) : K.undo.1.tot ≤ K.tot := by
  obtain ⟨C, L⟩ := K
  cases L with
  | nil => simp [KS.undo]
  | cons p L => obtain ⟨w, S⟩ := p; simp [KS.undo, KS.tot]
theorem KS.tot_undoN (K : KS) : ∀ k, (KS.undoN k K).tot ≤ K.tot
  | 0 => Nat.le_refl _
  | k + 1 => Nat.le_trans (KS.tot_undo _) (KS.tot_undoN K k)
theorem KS.tot_begin (K : KS) : K.begin.1.tot ≤ K.tot := by unfold KS.begin; split <;> simp [KS.tot]
theorem KS.tot_keep (K : KS) : K.keep.1.tot ≤ K.tot := by
  obtain ⟨C, L⟩ := K
  cases L with
  | nil => simp [KS.keep]
  | cons p L =>
    obtain ⟨w, S⟩ := p
    cases L with
    | nil => simp [KS.keep, KS.tot]
    | cons p2 L => obtain ⟨w2, S2⟩ := p2; simp [KS.keep, KS.tot]; omega
theorem KS.tot_does (K : KS) (kind i k n : Int) : (K.does kind i k n).1.tot ≤ K.tot + 2 := by
  unfold KS.does
  split
  · unfold KS.set; split
    · have := K.tot_put i.toNat n; simp only; omega
    · simp
  split
  · unfold KS.chg; split
    · split
      · exact Nat.le_trans (K.tot_put _ _) (by omega)
      · simp
    · simp
  split
  · unfold KS.chg; split
    · split
      · exact Nat.le_trans (K.tot_put _ _) (by omega)
      · simp
    · simp
  split
  · unfold KS.move; split
    · split
      · simp
      split
      · simp
      split
      · simp
      · have h1 := K.tot_put i.toNat (K.C.getD i.toNat 0 - n)
        have h2 := (K.put i.toNat (K.C.getD i.toNat 0 - n)).tot_put k.toNat (K.C.getD k.toNat 0 + n)
        simp only; omega
    · simp
  split
  · have := K.tot_begin; simp only; omega
  split
  · have := K.tot_keep; omega
  split
  · have := K.tot_undo; omega
  split
  · unfold KS.back; split
    · simp
    · have := K.tot_undoN (K.L.length - i.toNat); simp only; omega
  simp
end Go.Proofs.Ytkpfnonacebmkaa
