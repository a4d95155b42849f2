/- Whatever is done behind a level, as long as it is open: what is taken back brings the cells back. -/
import Derived.Test.YtkpfnonacebmkaaMd
namespace Go.Proofs.Ytkpfnonacebmkaa

theorem unw_add : ∀ (a b : Nat) (U : List (Nat × Int)) (C : List Int), unw (a + b) U C = unw b (U.drop a) (unw a U C)
  | 0, b, U, C => by simp [unw]
  | a + 1, b, [], C => by
    rw [show a + 1 + b = (a + b) + 1 from by omega]
    cases b <;> simp [unw]
  | a + 1, b, (i, o) :: U, C => by
    rw [show a + 1 + b = (a + b) + 1 from by omega]
    simp only [unw, List.drop_succ_cons]
    exact unw_add a b U _
theorem set_back (C : List Int) (i : Nat) (n : Int) : (C.set i n).set i (C.getD i 0) = C := by
  rw [List.set_set]
  rcases Nat.lt_or_ge i C.length with h | h
  · rw [show C.getD i 0 = C[i] from by rw [List.getD_eq_getElem?_getD, List.getElem?_eq_getElem h]; rfl]
    exact List.set_getElem_self h
  · exact List.set_eq_of_length_le h
theorem unw_length : ∀ (k : Nat) (U : List (Nat × Int)) (C : List Int), (unw k U C).length = C.length
  | 0, _, _ => by simp [unw]
  | _ + 1, [], _ => by simp [unw]
  | k + 1, (i, o) :: U, C => by rw [unw, unw_length k]; simp
/-- Behind the level whose mark is u0, over the levels L0; C0: the cells when it was opened. -/
def Bk (C0 : List Int) (u0 : Nat) (L0 : List (Nat × List Nat)) (J : JS) : Prop :=
  ∃ ext T v, J.L = ext ++ (u0, T) :: L0 ∧ J.U.length = v + u0 ∧ unw v J.U J.C = C0 ∧ ∀ p ∈ ext, u0 ≤ p.1
variable {C0 : List Int} {u0 : Nat} {L0 : List (Nat × List Nat)} {J : JS}
theorem Bk.begin0 (J : JS) (h : J.L.length < 64) : Bk J.C J.U.length J.L J.begin.1 ∧ J.begin.2 = ((J.L.length : Int) + 1, 0) := by
  unfold JS.begin
  rw [if_neg (by omega)]
  exact ⟨⟨[], [], 0, rfl, by simp, by simp [unw], fun p hp => by cases hp⟩, rfl⟩
theorem Bk.put (h : Bk C0 u0 L0 J) (i : Nat) (n : Int) : Bk C0 u0 L0 (J.put i n) := by
  obtain ⟨ext, T, v, hL, hU, hC, hm⟩ := h
  have hne : J.L ≠ [] := by rw [hL]; simp
  unfold JS.put
  rw [if_neg hne, hL]
  have hC' : unw (v + 1) ((i, J.C.getD i 0) :: J.U) (J.C.set i n) = C0 := by
    rw [unw, set_back]; exact hC
  cases ext with
  | nil => exact ⟨[], i :: T, v + 1, rfl, by simp only [List.length_cons]; omega, hC', fun p hp => by cases hp⟩
  | cons q ext =>
    obtain ⟨m, T'⟩ := q
    refine ⟨(m, i :: T') :: ext, T, v + 1, rfl, by simp only [List.length_cons]; omega, hC', fun p hp => ?_⟩
    rcases List.mem_cons.1 hp with rfl | hp
    · exact hm (m, T') (List.mem_cons_self ..)
    · exact hm p (List.mem_cons_of_mem _ hp)
theorem Bk.set (h : Bk C0 u0 L0 J) (i n : Int) : Bk C0 u0 L0 (J.set i n).1 := by
  unfold JS.set; split
  · exact h.put _ _
  · exact h
theorem Bk.chg (h : Bk C0 u0 L0 J) (i n : Int) (f : Int → Int → Int × Int) : Bk C0 u0 L0 (J.chg i n f).1 := by
  unfold JS.chg; split
  · split
    · exact h.put _ _
    · exact h
  · exact h
theorem Bk.move (h : Bk C0 u0 L0 J) (i k n : Int) : Bk C0 u0 L0 (J.move i k n).1 := by
  unfold JS.move
  split
  · split
    · exact h
    split
    · exact h
    split
    · exact h
    · exact (h.put _ _).put _ _
  · exact h
theorem Bk.begin (h : Bk C0 u0 L0 J) : Bk C0 u0 L0 J.begin.1 := by
  unfold JS.begin
  split
  · exact h
  · obtain ⟨ext, T, v, hL, hU, hC, hm⟩ := h
    refine ⟨(J.U.length, []) :: ext, T, v, by simp [hL], hU, hC, fun p hp => ?_⟩
    rcases List.mem_cons.1 hp with rfl | hp
    · simp only; omega
    · exact hm p hp
theorem Bk.keep (h : Bk C0 u0 L0 J) (hd : L0.length + 1 < J.L.length) : Bk C0 u0 L0 J.keep.1 := by
  obtain ⟨ext, T, v, hL, hU, hC, hm⟩ := h
  cases ext with
  | nil => rw [hL] at hd; simp at hd
  | cons q ext =>
    obtain ⟨m, T'⟩ := q
    cases ext with
    | nil =>
      have e : J.keep.1 = ⟨J.C, J.U, (u0, T' ++ T) :: L0⟩ := by unfold JS.keep; rw [hL]; rfl
      rw [e]
      exact ⟨[], T' ++ T, v, rfl, hU, hC, fun p hp => by cases hp⟩
    | cons q2 ext =>
      obtain ⟨m2, T2⟩ := q2
      have e : J.keep.1 = ⟨J.C, J.U, (m2, T' ++ T2) :: (ext ++ (u0, T) :: L0)⟩ := by unfold JS.keep; rw [hL]; rfl
      rw [e]
      refine ⟨(m2, T' ++ T2) :: ext, T, v, rfl, hU, hC, fun p hp => ?_⟩
      rcases List.mem_cons.1 hp with rfl | hp
      · exact hm (m2, T2) (by simp)
      · exact hm p (by simp [hp])
theorem Bk.undo (h : Bk C0 u0 L0 J) (hd : L0.length + 1 < J.L.length) : Bk C0 u0 L0 J.undo.1 := by
  obtain ⟨ext, T, v, hL, hU, hC, hm⟩ := h
  cases ext with
  | nil => rw [hL] at hd; simp at hd
  | cons q ext =>
    obtain ⟨m, T'⟩ := q
    have e : J.undo.1 = ⟨unw (J.U.length - m) J.U J.C, J.U.drop (J.U.length - m), ext ++ (u0, T) :: L0⟩ := by unfold JS.undo; rw [hL]; rfl
    have h1 : u0 ≤ m := hm (m, T') (List.mem_cons_self ..)
    rw [e]
    refine ⟨ext, T, v - (J.U.length - m), rfl, by simp only [List.length_drop]; omega, ?_, fun p hp => hm p (List.mem_cons_of_mem _ hp)⟩
    rw [← unw_add, show J.U.length - m + (v - (J.U.length - m)) = v from by omega]
    exact hC
theorem Bk.last (h : Bk C0 u0 L0 J) (hd : J.L.length = L0.length + 1) : J.undo.1.C = C0 ∧ J.undo.1.L = L0 := by
  obtain ⟨ext, T, v, hL, hU, hC, hm⟩ := h
  cases ext with
  | cons q ext => rw [hL] at hd; simp at hd; omega
  | nil =>
    have e : J.undo.1 = ⟨unw (J.U.length - u0) J.U J.C, J.U.drop (J.U.length - u0), L0⟩ := by unfold JS.undo; rw [hL]; rfl
    rw [e]
    exact ⟨by simp only; rw [show J.U.length - u0 = v from by omega]; exact hC, rfl⟩
theorem Bk.deep (h : Bk C0 u0 L0 J) : L0.length + 1 ≤ J.L.length := by
  obtain ⟨ext, T, v, hL, _⟩ := h
  rw [hL]; simp
theorem Bk.undoN (h : Bk C0 u0 L0 J) : ∀ k, L0.length + 1 + k ≤ J.L.length → Bk C0 u0 L0 (JS.undoN k J)
  | 0, _ => h
  | k + 1, hk => (Bk.undoN h k (by omega)).undo (by rw [undoN_L, List.length_drop]; omega)
theorem Bk.back (h : Bk C0 u0 L0 J) : (J.back (L0.length : Int)).2 = 0 ∧ (J.back (L0.length : Int)).1.C = C0 ∧ (J.back (L0.length : Int)).1.L = L0 := by
  have hd := h.deep
  have e : J.back (L0.length : Int) = (JS.undoN (J.L.length - L0.length) J, 0) := by
    unfold JS.back; rw [if_neg (by omega), Int.toNat_natCast]
  rw [e, show J.L.length - L0.length = (J.L.length - L0.length - 1) + 1 from by omega, JS.undoN]
  have := (h.undoN (J.L.length - L0.length - 1) (by omega)).last (by rw [undoN_L, List.length_drop]; omega)
  exact ⟨rfl, this.1, this.2⟩
theorem Bk.does (h : Bk C0 u0 L0 J) (kind i k n : Int) (h7 : kind ≠ 7) (hd : kind = 5 ∨ kind = 6 → L0.length + 1 < J.L.length) : Bk C0 u0 L0 (J.does kind i k n).1 := by
  unfold JS.does
  split
  · exact h.set _ _
  split
  · exact h.chg _ _ _
  split
  · exact h.chg _ _ _
  split
  · exact h.move _ _ _
  split
  · exact h.begin
  split
  · exact h.keep (hd (by omega))
  split
  · exact h.undo (hd (by omega))
  · exact h

theorem put_L (J : JS) (i : Nat) (n : Int) : (J.put i n).L.length = J.L.length := by simp [JS.put, touch_length]
theorem does_depth (J : JS) (kind i k n : Int) (h7 : kind ≠ 7) : (J.does kind i k n).1.L.length ≤ J.L.length + 1 := by
  unfold JS.does
  split
  · unfold JS.set; split
    · rw [put_L]; omega
    · simp
  split
  · unfold JS.chg; split
    · split
      · rw [put_L]; omega
      · simp
    · simp
  split
  · unfold JS.chg; split
    · split
      · rw [put_L]; omega
      · simp
    · simp
  split
  · unfold JS.move
    repeat' split
    all_goals (try rw [put_L, put_L]) <;> simp
  split
  · unfold JS.begin; split <;> simp
  split
  · unfold JS.keep; split
    · simp
    · rename_i h; simp
    · rename_i h; simp only [h, List.length_cons]; omega
  split
  · rw [undo_L, List.length_tail]; omega
  · simp
theorem made_depth (l : List Ac) : (JS.made l).L.length ≤ l.length := by
  suffices h : ∀ (l : List Ac) (J : JS), (l.foldl mStep J).L.length ≤ J.L.length + l.length by
    have := h l (JS.new 6)
    simpa [JS.made, JS.new] using this
  intro l
  induction l with
  | nil => intro J; simp
  | cons x l ih =>
    intro J
    rw [List.foldl_cons, List.length_cons]
    have h1 : (mStep J x).L.length ≤ J.L.length + 1 := by
      unfold mStep
      split
      · omega
      · rename_i h7; exact does_depth _ _ _ _ _ h7
    have := ih (mStep J x)
    omega
end Go.Proofs.Ytkpfnonacebmkaa
