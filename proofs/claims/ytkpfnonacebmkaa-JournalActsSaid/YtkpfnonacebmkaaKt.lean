/- The document's journal in memory: levels opened, dropped, undone. -/
import Derived.Test.YtkpfnonacebmkaaKr
namespace Go.Proofs.Ytkpfnonacebmkaa
open Go.RowKit

theorem heap2_set0 {w : World} {b : Nat} {v0 v1 : Value} {t : TypeId} (h : w.heap[b]? = some (.cells #[v0, v1] t (0, 0))) (x : Value) :
    (w.setCell ⟨b, 0, none⟩ x).heap[b]? = some (.cells #[x, v1] t (0, 0)) := by simp [World.setCell, Array.getElem?_modify, h]
theorem heap2_set1 {w : World} {b : Nat} {v0 v1 : Value} {t : TypeId} (h : w.heap[b]? = some (.cells #[v0, v1] t (0, 0))) (x : Value) :
    (w.setCell ⟨b, 1, none⟩ x).heap[b]? = some (.cells #[v0, x] t (0, 0)) := by simp [World.setCell, Array.getElem?_modify, h]
theorem lvK {w : World} {v : Value} {n : Nat} {xs : List Value} {e : TypeId} {size : Nat} (h : LRow w e size v n xs) (hn : 0 < n) : ∃ g c, v = .slice (some ⟨g, 0, none⟩) n c := by
  rcases h.2 with ⟨_, h0⟩ | ⟨g, c, _, h1, _⟩
  · omega
  · exact ⟨g, c, h1⟩

section
variable {W W' : World} {F : Nat → Prop} {r : Nat} {K : KS} {cb cc : Nat} {ws : List LB}
/-- A level is opened. -/
theorem Kg.opened {W2 w4 : World} {d lc g cap wb wc : Nat} {lo : Option Addr} (h : Kg W2 F r K cb cc (.slice lo d lc) ws) (hd0 : K.L.length = d) (hd1 : d ≤ 63) (hm : OwnC W2 wb wc K.C) (hwb : ¬ F wb)
    (ho : LRow w4 76 2 (.slice (some ⟨g, 0, none⟩) (d + 1) cap) (d + 1) (rowK K.L ws ++ [.slice (some ⟨wb, 0, none⟩) K.C.length wc, .slice none 0 0])) (hg : W2.grownBy w4 (Value.slice lo d lc).ownBlock) (ha : (Value.slice lo d lc).ownBlock = some g ∨ g = W2.heap.size) (hgl : g < w4.heap.size) :
    Kg (w4.setCell ⟨r, 1, none⟩ (.slice (some ⟨g, 0, none⟩) (d + 1) cap)) (fun k => F k ∨ k = wb ∨ k = g) r { K with L := (K.C, []) :: K.L } cb cc (.slice (some ⟨g, 0, none⟩) (d + 1) cap) ((wb, wc, .slice none 0 0) :: ws) := by
  have hs : w4.grownBy (w4.setCell ⟨r, 1, none⟩ (.slice (some ⟨g, 0, none⟩) (d + 1) cap)) (some r) := grown_set _
  have hk : ∀ k, k < W2.heap.size → k ≠ r → (Value.slice lo d lc).ownBlock ≠ some k → (w4.setCell ⟨r, 1, none⟩ (.slice (some ⟨g, 0, none⟩) (d + 1) cap)).heap[k]? = W2.heap[k]? := fun k hk hne hno =>
    (hs.block k (Nat.lt_of_lt_of_le hk hg.size) (fun e => hne (by cases e; rfl))).trans (hg.block k hk (fun e => hno e.symm))
  have hsz : (w4.setCell ⟨r, 1, none⟩ (.slice (some ⟨g, 0, none⟩) (d + 1) cap)).heap.size = w4.heap.size := by simp [World.setCell]
  obtain ⟨curw, hcw⟩ := hm.typed
  have hbl := lt_of_block hcw
  have hgr : g ≠ r := by
    rcases ha with ha | rfl
    · exact (h.row_ne ha).1
    · have := lt_of_block h.hr; omega
  have hr4 : w4.heap[r]? = some (.cells #[.slice (some ⟨cb, 0, none⟩) K.C.length cc, .slice lo d lc] 70 (0, 0)) := (hg.block r (lt_of_block h.hr) (fun e => (h.row_ne e.symm).1 rfl)).trans h.hr
  have hbo : (Value.slice lo d lc).ownBlock ≠ some wb := fun e => hwb (h.ml _ e)
  have hwr : wb ≠ r := fun e => hwb (e ▸ h.mr)
  have get : ∀ {q : Nat} {b' c' : Nat} {v : Value}, ((wb, wc, Value.slice none 0 0) :: ws : List LB)[q]? = some (b', c', v) → (q = 0 ∧ b' = wb ∧ c' = wc ∧ v = .slice none 0 0) ∨ ∃ q', q = q' + 1 ∧ ws[q']? = some (b', c', v) := fun {q b' c' v} e => by
    cases q with
    | zero =>
      simp only [List.getElem?_cons_zero, Option.some.injEq, Prod.mk.injEq] at e
      exact .inl ⟨rfl, e.1.symm, e.2.1.symm, e.2.2.symm⟩
    | succ q => exact .inr ⟨q, rfl, by simpa using e⟩
  have nown : ∀ g, (Value.slice none 0 0).ownBlock ≠ some g := fun g => by simp [Value.ownBlock]
  refine ⟨heap2_set1 hr4 _, h.cells.kept (hk cb (h.fl _ h.mc) h.r_cb.symm (fun e => (h.row_ne e).2 rfl)), ?_, by simp [h.len], ?_, ?_, ?_, ?_, .inl h.mr, .inl h.mc, fun k e => .inr (.inr (by simp [Value.ownBlock] at e; exact e.symm)), ?_, ?_, ?_⟩
  · have e1 : rowK ((K.C, []) :: K.L) ((wb, wc, .slice none 0 0) :: ws) = rowK K.L ws ++ [.slice (some ⟨wb, 0, none⟩) K.C.length wc, .slice none 0 0] := rfl
    simp only [List.length_cons, hd0, e1]
    exact ho.kept fun k e => by
      simp [Value.ownBlock] at e
      subst e
      exact hs.block g hgl (fun e => hgr (by cases e; rfl))
  · intro q w' S0 b' c' v h1 h2
    rcases get h2 with ⟨rfl, rfl, rfl, rfl⟩ | ⟨q, rfl, h2'⟩
    · simp only [List.getElem?_cons_zero, Option.some.injEq, Prod.mk.injEq] at h1
      obtain ⟨rfl, rfl⟩ := h1
      exact ⟨hm.kept (hk b' hbl hwr hbo), LRow.nil _ _ _⟩
    · simp only [List.getElem?_cons_succ] at h1
      obtain ⟨k1, k2⟩ := h.at' q w' S0 b' c' v h1 h2'
      obtain ⟨m1, m2⟩ := h.mw q b' c' v h2'
      obtain ⟨n1, n2, n3⟩ := h.was_ne h2'
      exact ⟨k1.kept (hk b' (h.fl _ m1) n1 (fun e => n3 b' e rfl)), k2.kept fun k e => hk k (h.fl _ (m2 k e)) (h.set_ne h2' e).1 (fun e' => (h.set_ne h2' e).2.2.1 k e' rfl)⟩
  · intro q b' c' v h2
    rcases get h2 with ⟨rfl, rfl, rfl, rfl⟩ | ⟨q, rfl, h2'⟩
    · exact fun e => hwb (e ▸ h.mc)
    · exact h.dc q b' c' v h2'
  · intro q q' b' c1 v1 c2 v2 h1 h2
    rcases get h1 with ⟨rfl, hb1, rfl, rfl⟩ | ⟨q1, rfl, h1'⟩ <;> rcases get h2 with ⟨rfl, hb2, rfl, rfl⟩ | ⟨q2, rfl, h2'⟩
    · rfl
    · subst hb1; exact absurd (h.mw q2 _ _ _ h2').1 hwb
    · subst hb2; exact absurd (h.mw q1 _ _ _ h1').1 hwb
    · rw [h.dw q1 q2 _ _ _ _ _ h1' h2']
  · intro q q' b1 c1 v1 b2 c2 v2 k h1 h2 e1 e2
    rcases get h1 with ⟨rfl, rfl, rfl, rfl⟩ | ⟨q1, rfl, h1'⟩
    · exact absurd e1 (nown k)
    rcases get h2 with ⟨rfl, rfl, rfl, rfl⟩ | ⟨q2, rfl, h2'⟩
    · exact absurd e2 (nown k)
    · rw [h.ds q1 q2 _ _ _ _ _ _ k h1' h2' e1 e2]
  · intro q b' c' v h2
    rcases get h2 with ⟨rfl, rfl, rfl, rfl⟩ | ⟨q, rfl, h2'⟩
    · exact ⟨.inr (.inl rfl), fun k e => absurd e (nown k)⟩
    · exact ⟨.inl (h.mw q b' c' v h2').1, fun k e => .inl ((h.mw q b' c' v h2').2 k e)⟩
  · rintro k (h1 | rfl | rfl)
    · rw [hsz]; exact Nat.lt_of_lt_of_le (h.fl k h1) hg.size
    · rw [hsz]; exact Nat.lt_of_lt_of_le hbl hg.size
    · rw [hsz]; exact hgl
  · refine ⟨h.ok.pos, h.ok.most, h.ok.ws, fun p hp => ?_, by simp only [List.length_cons]; omega⟩
    rcases List.mem_cons.1 hp with rfl | hp
    · exact ⟨rfl, h.ok.ws⟩
    · exact h.ok.was p hp

/-- The topmost level is dropped; its cells are taken, or not. -/
theorem Kg.dropped {g d lc : Nat} {x : LB} {ws' : List LB} {y : List Int × List Int} {L' : List (List Int × List Int)} (h : Kg W F r K cb cc (.slice (some ⟨g, 0, none⟩) (d + 1) lc) (x :: ws')) (hL : K.L = y :: L') (hd0 : L'.length = d)
    {C' : List Int} {cb' cc' : Nat} (hC : (C' = K.C ∧ cb' = cb ∧ cc' = cc) ∨ (C' = y.1 ∧ cb' = x.1 ∧ cc' = x.2.1))
    (hr' : W'.heap[r]? = some (.cells #[.slice (some ⟨cb', 0, none⟩) C'.length cc', .slice (some ⟨g, 0, none⟩) d lc] 70 (0, 0))) (hk : ∀ k, k < W.heap.size → k ≠ r → W'.heap[k]? = W.heap[k]?) (hsz : W'.heap.size = W.heap.size) :
    Kg W' F r ⟨C', L'⟩ cb' cc' (.slice (some ⟨g, 0, none⟩) d lc) ws' := by
  obtain ⟨w, S⟩ := y
  obtain ⟨b, c, sv⟩ := x
  have hlen := h.len
  rw [hL] at hlen
  simp only [List.length_cons, Nat.add_right_cancel_iff] at hlen
  have h0w : ((b, c, sv) :: ws' : List LB)[0]? = some (b, c, sv) := rfl
  have h0L : K.L[0]? = some (w, S) := by rw [hL]; rfl
  have up : ∀ {p : Nat} {z : LB}, ws'[p]? = some z → ((b, c, sv) :: ws' : List LB)[p + 1]? = some z := fun h => by simpa using h
  have upL : ∀ {p : Nat} {z : List Int × List Int}, L'[p]? = some z → K.L[p + 1]? = some z := fun h => by rw [hL]; simpa using h
  have hok := h.ok
  have hwas := hok.was (w, S) (by rw [hL]; exact List.mem_cons_self ..)
  have hcl : C'.length = K.C.length := by
    rcases hC with ⟨rfl, _⟩ | ⟨rfl, _⟩
    · rfl
    · exact hwas.1
  refine ⟨hr', ?_, ?_, hlen, ?_, ?_, ?_, ?_, h.mr, ?_, fun k e => h.ml k e, ?_, fun k hk' => by rw [hsz]; exact h.fl k hk', ?_⟩
  · rcases hC with ⟨rfl, rfl, rfl⟩ | ⟨rfl, rfl, rfl⟩
    · exact h.cells.kept (hk _ (h.fl _ h.mc) h.r_cb.symm)
    · exact (h.at' 0 _ _ _ _ _ h0L h0w).1.kept (hk _ (h.fl _ (h.mw 0 _ _ _ h0w).1) (h.was_ne h0w).1)
  · have hr := h.row
    rw [hL] at hr
    simp only [List.length_cons, hd0] at hr
    have h1 := hr.cutTo (k := d) (by omega)
    have e1 : (rowK ((w, S) :: L') ((b, c, sv) :: ws')).take (d * 2) = rowK L' ws' := by
      show (rowK L' ws' ++ _).take _ = _
      rw [← hd0, ← rowK_length hlen]; exact List.take_left
    rw [e1] at h1
    show LRow _ 76 2 _ L'.length _
    rw [hd0]
    exact h1.kept fun k e => by
      cases e
      exact hk g (h.fl _ (h.ml g rfl)) (h.row_ne rfl).1
  · intro p w0 S0 b0 c0 v0 h1 h2
    obtain ⟨k1, k2⟩ := h.at' (p + 1) w0 S0 b0 c0 v0 (upL h1) (up h2)
    obtain ⟨m1, m2⟩ := h.mw (p + 1) b0 c0 v0 (up h2)
    exact ⟨k1.kept (hk _ (h.fl _ m1) (h.was_ne (up h2)).1), k2.kept fun k e => hk k (h.fl _ (m2 k e)) (h.set_ne (up h2) e).1⟩
  · intro p b0 c0 v0 h2
    rcases hC with ⟨rfl, rfl, rfl⟩ | ⟨rfl, rfl, rfl⟩
    · exact h.dc (p + 1) b0 c0 v0 (up h2)
    · intro e
      subst e
      have := h.dw 0 (p + 1) _ _ _ _ _ h0w (up h2)
      omega
  · intro p q b0 c0 v0 c1 v1 h1 h2
    have := h.dw (p + 1) (q + 1) _ _ _ _ _ (up h1) (up h2)
    omega
  · intro p q b0 c0 v0 b1 c1 v1 k h1 h2 e1 e2
    have := h.ds (p + 1) (q + 1) _ _ _ _ _ _ k (up h1) (up h2) e1 e2
    omega
  · rcases hC with ⟨rfl, rfl, rfl⟩ | ⟨rfl, rfl, rfl⟩
    · exact h.mc
    · exact (h.mw 0 _ _ _ h0w).1
  · intro p b0 c0 v0 h2
    exact h.mw (p + 1) b0 c0 v0 (up h2)
  · refine ⟨by rw [hcl]; exact hok.pos, by rw [hcl]; exact hok.most, ?_, fun p hp => ?_, ?_⟩
    · rcases hC with ⟨rfl, _⟩ | ⟨rfl, _⟩
      · exact hok.ws
      · exact hwas.2
    · have := hok.was p (by rw [hL]; exact List.mem_cons_of_mem _ hp)
      rw [hcl]; exact this
    · have := hok.dp
      rw [hL] at this
      simp only [List.length_cons] at this ⊢
      omega
/-- The topmost level. -/
theorem Kg.top {lv : Value} (h : Kg W F r K cb cc lv ws) {w S : List Int} {L' : List (List Int × List Int)} (hL : K.L = (w, S) :: L') :
    ∃ g lc b c sv ws', lv = .slice (some ⟨g, 0, none⟩) (L'.length + 1) lc ∧ L'.length + 1 ≤ lc ∧ ws = (b, c, sv) :: ws' ∧ ws'.length = L'.length ∧ OwnC W b c w ∧ LRow W 3 1 sv S.length (S.map (Value.int .i64)) ∧
      W.cell? ⟨g, L'.length * 2, none⟩ = some (.slice (some ⟨b, 0, none⟩) w.length c) ∧ W.cell? ⟨g, L'.length * 2 + 1, none⟩ = some sv := by
  have hlen := h.len
  rw [hL] at hlen
  cases ws with
  | nil => simp at hlen
  | cons x ws' =>
    obtain ⟨b, c, sv⟩ := x
    have hr := h.row
    obtain ⟨g, lc, rfl⟩ := lvK hr (by rw [hL]; simp)
    obtain ⟨k1, k2⟩ := rowK_at (p := 0) h.len (by rw [hL]; rfl) rfl
    obtain ⟨k3, k4⟩ := h.at' 0 w S b c sv (by rw [hL]; rfl) rfl
    rw [hL] at hr k1 k2
    simp only [List.length_cons, Nat.add_sub_cancel, Nat.sub_zero] at k1 k2 hlen hr
    refine ⟨g, lc, b, c, sv, ws', by rw [hL, List.length_cons], hr.cap, rfl, by omega, k3, k4, hr.at k1, hr.at k2⟩
end

/-- The document's journal behind an act. -/
def Kst (W : World) (F : Nat → Prop) (r : Nat) (W' : World) (K' : KS) : Prop := ∃ F', Kn W' F' r K' ∧ Stp W W' F F' F F'
section
variable {W W1 W2 : World} {F F1 : Nat → Prop} {r : Nat} {K : KS}
theorem Kst.same (h : Kn W F r K) (hb : Below W.heap.size W W1) : Kst W F r W1 K := ⟨F, h.below hb, Stp.of_below F F hb⟩
theorem Kg.touch {cb cc g lc d b c g2 cap i N : Nat} {sv : Value} {ws' : List LB} {w S : List Int} {L' : List (List Int × List Int)} {w4 : World} (h : Kg W1 F r K cb cc (.slice (some ⟨g, 0, none⟩) (d + 1) lc) ((b, c, sv) :: ws')) (hL : K.L = (w, S) :: L') (hd : L'.length = d)
    (hB : Below W1.heap.size W1 W2) (hs : W2.heap.size = N) (hg : W2.grownBy w4 sv.ownBlock) (hO : LRow w4 3 1 (.slice (some ⟨g2, 0, none⟩) (S.length + 1) cap) (S.length + 1) (S.map (Value.int .i64) ++ [.int .i64 i]))
    (hA : sv.ownBlock = some g2 ∨ g2 = N) (hlt : g2 < w4.heap.size) :
    Kst W1 F r (w4.setCell ⟨g, d * 2 + 1, none⟩ (.slice (some ⟨g2, 0, none⟩) (S.length + 1) cap)) ⟨K.C, (w, S ++ [(i : Int)]) :: L'⟩ := by
  have h2 := h.below hB
  have h3 := h2.setAt (p := 0) (S' := S ++ [(i : Int)]) (sv' := .slice (some ⟨g2, 0, none⟩) (S.length + 1) cap) (w4 := w4) (by rw [hL]; simp [hd]) (by rw [hL]; rfl) rfl (by simpa using hO) hg (by
    rcases hA with hA | hA
    · exact .inl hA.symm
    · exact .inr ⟨g2, rfl, by omega, hlt⟩)
  rw [hL] at h3
  refine ⟨_, ⟨_, _, _, _, h3⟩, ?_⟩
  have k1 := Stp.of_below F F hB
  have hgg : F g2 ∨ W2.heap.size ≤ g2 := hA.imp (fun e => (h.mw 0 b c sv rfl).2 g2 e) (fun e => by omega)
  have k2 : Stp W2 w4 F F F F := ⟨hg.os, hg.tape, hg.output, hg.size, fun k hk hn => hg.block k hk (fun e => hn ((h.mw 0 b c sv rfl).2 k e.symm)), fun _ h => .inl h, fun _ h => .inl h⟩
  have k3 := (k1.trans k2).trans (Stp.of_grown (M := F) F (grown_set (W := w4) (r := g) (k := d * 2 + 1) (.slice (some ⟨g2, 0, none⟩) (S.length + 1) cap)) (h.ml g rfl))
  have new : ∀ k, (F k ∨ (Value.slice (some ⟨g2, 0, none⟩) (S.length + 1) cap).ownBlock = some k) → F k ∨ W1.heap.size ≤ k := by
    rintro k (h1 | h1)
    · exact .inl h1
    · cases h1
      exact hgg.imp id (fun e => Nat.le_trans hB.size e)
  exact ⟨k3.os, k3.tape, k3.output, k3.size, k3.block, new, new⟩
theorem Kst.trans (h : Stp W W1 F F1 F F1) (k : Kst W1 F1 r W2 K) : Kst W F r W2 K := by
  obtain ⟨F2, h2, k2⟩ := k
  exact ⟨F2, h2, h.trans k2⟩
end
end Go.Proofs.Ytkpfnonacebmkaa
