/- Levels and the cells when each was opened; a journal beside one without levels. -/
import Derived.Test.YtkpfnonacebmkaaBp
import Derived.Test.YtkpfnonacebmkaaTc
namespace Go.Proofs.Ytkpfnonacebmkaa

/-- ws: the cells when each open level was opened, the topmost first. -/
def Kp : List Int → List (Nat × Int) → List (Nat × List Nat) → List (List Int) → Prop
  | _, _, [], [] => True
  | C, U, (m, T) :: L, w :: ws => m ≤ U.length ∧ (∀ c, c ∉ T → C.getD c 0 = w.getD c 0) ∧ unw (U.length - m) U C = w ∧ Kp w (U.drop (U.length - m)) L ws
  | _, _, _, _ => False
theorem Kp.length : ∀ {L : List (Nat × List Nat)} {ws : List (List Int)} {C : List Int} {U : List (Nat × Int)}, Kp C U L ws → L.length = ws.length
  | [], [], _, _, _ => rfl
  | [], _ :: _, _, _, h => by simp [Kp] at h
  | _ :: _, [], _, _, h => by simp [Kp] at h
  | (_, _) :: L, _ :: ws, _, _, h => by rw [List.length_cons, List.length_cons, Kp.length h.2.2.2]
theorem Kp.lens : ∀ {L : List (Nat × List Nat)} {ws : List (List Int)} {C : List Int} {U : List (Nat × Int)}, Kp C U L ws → ∀ w ∈ ws, w.length = C.length
  | [], [], _, _, _ => fun w hw => by cases hw
  | [], _ :: _, _, _, h => by simp [Kp] at h
  | _ :: _, [], _, _, h => by simp [Kp] at h
  | (m, _) :: L, w :: ws, C, U, h => fun x hx => by
    have e : w.length = C.length := by rw [← h.2.2.1, unw_length]
    rcases List.mem_cons.1 hx with rfl | hx
    · exact e
    · rw [Kp.lens h.2.2.2 x hx, e]
theorem getD_set_ne' {C : List Int} {i c : Nat} {n : Int} (h : c ≠ i) : (C.set i n).getD c 0 = C.getD c 0 := by
  rw [List.getD_eq_getElem?_getD, List.getD_eq_getElem?_getD, List.getElem?_set_ne (Ne.symm h)]
variable {J K : JS} {ws : List (List Int)}
theorem Kp.put (h : Kp J.C J.U J.L ws) (i : Nat) (n : Int) : Kp (J.put i n).C (J.put i n).U (J.put i n).L ws := by
  obtain ⟨C, U, L⟩ := J
  cases L with
  | nil =>
    cases ws with
    | nil => simp [JS.put, JS.touch, Kp]
    | cons w ws => simp [Kp] at h
  | cons q L =>
    obtain ⟨m, T⟩ := q
    cases ws with
    | nil => simp [Kp] at h
    | cons w ws =>
      obtain ⟨h1, h2, h3, h4⟩ := h
      have e : ((i, C.getD i 0) :: U).length - m = (U.length - m) + 1 := by simp only [List.length_cons]; simp only at h1; omega
      show Kp (C.set i n) (if (m, T) :: L = [] then U else (i, C.getD i 0) :: U) ((m, i :: T) :: L) (w :: ws)
      rw [if_neg (by simp)]
      refine ⟨by simp only [List.length_cons]; simp only at h1; omega, fun c hc => ?_, ?_, ?_⟩
      · rw [List.mem_cons, not_or] at hc
        rw [getD_set_ne' hc.1]; exact h2 c hc.2
      · rw [e, unw, set_back]; exact h3
      · rw [e, List.drop_succ_cons]; exact h4
theorem Kp.begin (h : Kp J.C J.U J.L ws) (hd : J.L.length < 64) : Kp J.begin.1.C J.begin.1.U J.begin.1.L (J.C :: ws) := by
  unfold JS.begin
  rw [if_neg (by omega)]
  exact ⟨Nat.le_refl _, fun _ _ => rfl, by simp [unw], by simpa using h⟩
theorem Kp.keep (h : Kp J.C J.U J.L ws) (hd : J.L ≠ []) : Kp J.keep.1.C J.keep.1.U J.keep.1.L ws.tail := by
  obtain ⟨C, U, L⟩ := J
  cases L with
  | nil => exact absurd rfl hd
  | cons q L =>
    obtain ⟨m, T⟩ := q
    cases ws with
    | nil => simp [Kp] at h
    | cons w ws =>
      obtain ⟨h1, h2, h3, h4⟩ := h
      simp only at h1 h2 h3 h4
      cases L with
      | nil =>
        cases ws with
        | nil => exact trivial
        | cons w2 ws => simp [Kp] at h4
      | cons q2 L =>
        obtain ⟨m2, T2⟩ := q2
        cases ws with
        | nil => simp [Kp] at h4
        | cons w2 ws =>
          obtain ⟨g1, g2, g3, g4⟩ := h4
          rw [List.length_drop] at g1 g3 g4
          rw [show U.length - (U.length - m) = m from by omega] at g1 g3 g4
          show Kp C U ((m2, T ++ T2) :: L) (w2 :: ws)
          refine ⟨by omega, fun c hc => ?_, ?_, ?_⟩
          · rw [List.mem_append, not_or] at hc
            rw [h2 c hc.1, g2 c hc.2]
          · rw [show U.length - m2 = (U.length - m) + (m - m2) from by omega, unw_add, h3]; exact g3
          · rw [show U.length - m2 = (U.length - m) + (m - m2) from by omega, ← List.drop_drop]; exact g4
theorem Kp.undo {w : List Int} (h : Kp J.C J.U J.L (w :: ws)) : J.undo.2 = 0 ∧ J.undo.1.C = w ∧ Kp J.undo.1.C J.undo.1.U J.undo.1.L ws := by
  obtain ⟨C, U, L⟩ := J
  cases L with
  | nil => simp [Kp] at h
  | cons q L =>
    obtain ⟨m, T⟩ := q
    obtain ⟨h1, h2, h3, h4⟩ := h
    refine ⟨rfl, h3, ?_⟩
    show Kp (unw (U.length - m) U C) (U.drop (U.length - m)) L ws
    rw [show unw (U.length - m) U C = w from h3]; exact h4
theorem Kp.same {w : List Int} (h : Kp J.C J.U J.L (w :: ws)) {c : Nat} (hc : c < J.C.length) (ht : (c : Int) ∉ J.touched) : J.C.getD c 0 = w.getD c 0 := by
  obtain ⟨C, U, L⟩ := J
  cases L with
  | nil => simp [Kp] at h
  | cons q L =>
    obtain ⟨m, T⟩ := q
    refine h.2.1 c fun hT => ht ?_
    show (c : Int) ∈ riseN C.length T
    exact riseN_mem.2 ⟨c, hc, hT, rfl⟩

/-- What a plain act does: puts, alike on both. -/
theorem put_same (h : J.C = K.C) (hK : K.L = []) (i : Nat) (n : Int) : (J.put i n).C = (K.put i n).C ∧ (K.put i n).L = [] ∧ (J.put i n).L.length = J.L.length := by
  refine ⟨by simp [JS.put, h], by simp [JS.put, hK, JS.touch], put_L J i n⟩
theorem plain_both (h : J.C = K.C) (hK : K.L = []) (hp : Kp J.C J.U J.L ws) (kind i k n : Int) (h4 : kind ≠ 4) (h5 : kind ≠ 5) (h6 : kind ≠ 6) (h7 : kind ≠ 7) :
    (J.does kind i k n).1.C = (K.does kind i k n).1.C ∧ (J.does kind i k n).2 = (K.does kind i k n).2 ∧ (K.does kind i k n).1.L = [] ∧ Kp (J.does kind i k n).1.C (J.does kind i k n).1.U (J.does kind i k n).1.L ws := by
  have base : J.C = K.C ∧ K.L = [] ∧ Kp J.C J.U J.L ws := ⟨h, hK, hp⟩
  have one : ∀ (i : Nat) (n : Int), (J.put i n).C = (K.put i n).C ∧ (K.put i n).L = [] ∧ Kp (J.put i n).C (J.put i n).U (J.put i n).L ws := fun i n => ⟨(put_same h hK i n).1, (put_same h hK i n).2.1, hp.put i n⟩
  have two : ∀ (i : Nat) (n : Int) (i' : Nat) (n' : Int), ((J.put i n).put i' n').C = ((K.put i n).put i' n').C ∧ ((K.put i n).put i' n').L = [] ∧ Kp ((J.put i n).put i' n').C ((J.put i n).put i' n').U ((J.put i n).put i' n').L ws := fun i n i' n' => ⟨(put_same (one i n).1 (one i n).2.1 i' n').1, (put_same (one i n).1 (one i n).2.1 i' n').2.1, (hp.put i n).put i' n'⟩
  unfold JS.does
  split
  · unfold JS.set; rw [h]; split
    · exact ⟨(one _ _).1, rfl, (one _ _).2.1, (one _ _).2.2⟩
    · exact ⟨h, rfl, hK, by rw [← h] at *; exact hp⟩
  split
  · unfold JS.chg; rw [h]; split
    · split
      · exact ⟨(one _ _).1, rfl, (one _ _).2.1, (one _ _).2.2⟩
      · exact ⟨h, rfl, hK, by rw [← h] at *; exact hp⟩
    · exact ⟨h, rfl, hK, by rw [← h] at *; exact hp⟩
  split
  · unfold JS.chg; rw [h]; split
    · split
      · exact ⟨(one _ _).1, rfl, (one _ _).2.1, (one _ _).2.2⟩
      · exact ⟨h, rfl, hK, by rw [← h] at *; exact hp⟩
    · exact ⟨h, rfl, hK, by rw [← h] at *; exact hp⟩
  split
  · unfold JS.move; rw [h]; split
    · split
      · exact ⟨h, rfl, hK, by rw [← h] at *; exact hp⟩
      split
      · exact ⟨h, rfl, hK, by rw [← h] at *; exact hp⟩
      split
      · exact ⟨h, rfl, hK, by rw [← h] at *; exact hp⟩
      · exact ⟨(two _ _ _ _).1, rfl, (two _ _ _ _).2.1, (two _ _ _ _).2.2⟩
    · exact ⟨h, rfl, hK, by rw [← h] at *; exact hp⟩
  exact ⟨h, rfl, hK, hp⟩
/-- Begin, Keep: what they make of the levels. -/
theorem open_both (hp : Kp J.C J.U J.L ws) (i k n : Int) : (J.does 4 i k n).1.C = J.C ∧ Kp (J.does 4 i k n).1.C (J.does 4 i k n).1.U (J.does 4 i k n).1.L (if J.L.length < 64 then J.C :: ws else ws) := by
  show J.begin.1.C = J.C ∧ Kp J.begin.1.C J.begin.1.U J.begin.1.L _
  split
  · rename_i hd
    exact ⟨by unfold JS.begin; split <;> rfl, hp.begin hd⟩
  · rename_i hd
    have e : J.begin.1 = J := by unfold JS.begin; rw [if_pos (by omega)]
    rw [e]; exact ⟨rfl, hp⟩
theorem keep_both (hp : Kp J.C J.U J.L ws) (i k n : Int) : (J.does 5 i k n).1.C = J.C ∧ Kp (J.does 5 i k n).1.C (J.does 5 i k n).1.U (J.does 5 i k n).1.L ws.tail := by
  show J.keep.1.C = J.C ∧ Kp J.keep.1.C J.keep.1.U J.keep.1.L _
  by_cases hd : J.L = []
  · have e : J.keep.1 = J := by unfold JS.keep; rw [hd]
    rw [e]
    refine ⟨rfl, ?_⟩
    have := hp.length
    rw [hd] at this
    obtain rfl : ws = [] := List.eq_nil_of_length_eq_zero this.symm
    exact hp
  · exact ⟨by unfold JS.keep; split <;> rfl, hp.keep hd⟩
end Go.Proofs.Ytkpfnonacebmkaa
