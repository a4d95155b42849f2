/- journal: Copy: what lies in memory. -/
import Derived.Test.YtkpfnonacebmkaaJo
namespace Go.Proofs.Ytkpfnonacebmkaa
open Go.RowKit Go.Maps

theorem mclone_any {W : World} {b N : Nat} {T : List Nat} (h : TSet W b N T) : Calls Try.prog 60 #[.map (some b)] W fun e w' => e = .returned (.map (some W.heap.size)) ∧ TSet w' W.heap.size N T ∧ Below W.heap.size W w' := by
  obtain ⟨D, h1, h2⟩ := h
  exact (Go.Proofs.AnyW.maps_Clone_owns cloneA 3 unitElem b N D W h1).mono fun e w' ⟨k1, k2, _, k4⟩ => ⟨k1, ⟨D, k2, h2⟩, k4⟩
theorem rowOf_at : ∀ {ps : List Nat} {L : List (Nat × List Nat)} {bs : List Nat} {p m : Nat} {T : List Nat} {b : Nat}, bs.length = L.length → L[p]? = some (m, T) → bs[p]? = some b →
    (rowOf ps L bs)[(L.length - 1 - p) * 2]? = some (.pointer (hd (ps.drop (ps.length - m)))) ∧ (rowOf ps L bs)[(L.length - 1 - p) * 2 + 1]? = some (.map (some b))
  | _, [], _, _, _, _, _, _, h, _ => by simp at h
  | _, _ :: _, [], _, _, _, _, h, _, _ => by simp at h
  | ps, (m', T') :: L, b' :: bs, 0, m, T, b, h, h1, h2 => by
    have hl := rowOf_length (ps := ps) (L := L) (bs := bs) (by simpa using h)
    simp only [List.getElem?_cons_zero, Option.some.injEq, Prod.mk.injEq] at h1 h2
    obtain ⟨rfl, rfl⟩ := h1
    subst h2
    simp only [rowOf, List.length_cons, Nat.add_sub_cancel, Nat.sub_zero]
    constructor
    · rw [List.getElem?_append_right (by omega)]; simp [hl]
    · rw [List.getElem?_append_right (by omega)]; simp [hl]
  | ps, (m', T') :: L, b' :: bs, p + 1, m, T, b, h, h1, h2 => by
    have hl := rowOf_length (ps := ps) (L := L) (bs := bs) (by simpa using h)
    have hp : p < L.length := by have := (List.getElem?_eq_some_iff.1 h1).1; simpa using this
    obtain ⟨g1, g2⟩ := rowOf_at (ps := ps) (L := L) (bs := bs) (p := p) (by simpa using h) (by simpa using h1) (by simpa using h2)
    simp only [rowOf, List.length_cons, Nat.add_sub_cancel]
    rw [show L.length - (p + 1) = L.length - 1 - p by omega]
    constructor
    · rw [List.getElem?_append_left (by omega)]; exact g1
    · rw [List.getElem?_append_left (by omega)]; exact g2
theorem Sets.at' {W : World} {N : Nat} : ∀ {L : List (Nat × List Nat)} {bs : List Nat}, Sets W N L bs → ∀ {p m : Nat} {T : List Nat}, L[p]? = some (m, T) → ∃ b, bs[p]? = some b ∧ TSet W b N T
  | [], [], _, _, _, _, h => by simp at h
  | (_, _) :: L, b :: bs, h, 0, m, T, h1 => by
    simp only [List.getElem?_cons_zero, Option.some.injEq, Prod.mk.injEq] at h1
    obtain ⟨rfl, rfl⟩ := h1
    exact ⟨b, rfl, h.1⟩
  | _ :: L, b :: bs, h, p + 1, m, T, h1 => by
    obtain ⟨b', h2, h3⟩ := Sets.at' h.2 (p := p) (by simpa using h1)
    exact ⟨b', by simpa using h2, h3⟩
  | [], _ :: _, h, _, _, _, _ => absurd h (by simp [Sets])
  | _ :: _, [], h, _, _, _, _ => absurd h (by simp [Sets])

theorem OwnW.toC2 {w : World} {base b cap : Nat} {l : List Int} (h : OwnW w base (some ⟨b, 0, none⟩) cap l) : OwnC w b cap l ∧ base ≤ b ∧ b < w.heap.size := by
  rcases h.2 with ⟨h1, _⟩ | ⟨g, c, cur, h1, h2, h3, r⟩
  · simp at h1
  · simp only [Value.slice.injEq, Option.some.injEq, Addr.mk.injEq, true_and, and_true] at h1
    obtain ⟨rfl, rfl⟩ := h1
    exact ⟨⟨h.1, .inr ⟨_, _, cur, rfl, Nat.zero_le _, h3, r⟩⟩, h2, lt_of_block h3⟩
theorem OwnW.some {w : World} {base cap : Nat} {ao : Option Addr} {l : List Int} (h : OwnW w base ao cap l) (hl : 0 < l.length) : ∃ b, ao = some ⟨b, 0, none⟩ := by
  rcases h.2 with ⟨_, h0⟩ | ⟨g, c, cur, h1, _⟩
  · omega
  · simp only [Value.slice.injEq] at h1; exact ⟨g, h1.1⟩
section
variable {W : World} {M F : Nat → Prop} {r : Nat} {J : JS}
/-- A level is laid on top, whatever it is. -/
theorem Jg.pushed {W2 w4 : World} {cb cc d lc g cap bm m : Nat} {T : List Nat} {ps : List Nat} {lo : Option Addr} {bs : List Nat} (h : Jg W2 M F r J cb cc ps (.slice lo d lc) bs) (hd0 : J.L.length = d) (hd1 : d ≤ 63) (hm : TSet W2 bm J.C.length T) (hbm : ¬ F bm)
    (hmU : m ≤ J.U.length) (hmo : ∀ q ∈ J.L, q.1 ≤ m) (hT : ∀ t ∈ T, t < J.C.length)
    (ho : LRow w4 73 2 (.slice (some ⟨g, 0, none⟩) (d + 1) cap) (d + 1) (rowOf ps J.L bs ++ [.pointer (hd (ps.drop (ps.length - m))), .map (some bm)])) (hg : W2.grownBy w4 (Value.slice lo d lc).ownBlock) (ha : (Value.slice lo d lc).ownBlock = some g ∨ g = W2.heap.size) (hgl : g < w4.heap.size) :
    Jg (w4.setCell ⟨r, 2, none⟩ (.slice (some ⟨g, 0, none⟩) (d + 1) cap)) (fun k => M k ∨ k = bm ∨ k = g) (fun k => F k ∨ k = bm ∨ k = g) r { J with L := (m, T) :: J.L } cb cc ps (.slice (some ⟨g, 0, none⟩) (d + 1) cap) (bm :: bs) := by
  have hs : w4.grownBy (w4.setCell ⟨r, 2, none⟩ (.slice (some ⟨g, 0, none⟩) (d + 1) cap)) (some r) := grown_set _
  have hk : ∀ k, k < W2.heap.size → k ≠ r → (Value.slice lo d lc).ownBlock ≠ some k → (w4.setCell ⟨r, 2, none⟩ (.slice (some ⟨g, 0, none⟩) (d + 1) cap)).heap[k]? = W2.heap[k]? := fun k hk hne hno =>
    (hs.block k (Nat.lt_of_lt_of_le hk hg.size) (fun e => hne (by cases e; rfl))).trans (hg.block k hk (fun e => hno e.symm))
  have hsz : (w4.setCell ⟨r, 2, none⟩ (.slice (some ⟨g, 0, none⟩) (d + 1) cap)).heap.size = w4.heap.size := by simp [World.setCell]
  have hbl := hm.lt
  have hgr : g ≠ r := by
    rcases ha with ha | rfl
    · exact (h.row_ne ha).1
    · have := lt_of_block h.hr; omega
  have hr4 : w4.heap[r]? = some (.cells #[.slice (some ⟨cb, 0, none⟩) J.C.length cc, .pointer (hd ps), .slice lo d lc] 65 (0, 0)) := (hg.block r (lt_of_block h.hr) (fun e => (h.row_ne e.symm).1 rfl)).trans h.hr
  have hmr : ∀ k, (Value.slice lo d lc).ownBlock = some k → M k := h.ml
  have hbo : (Value.slice lo d lc).ownBlock ≠ some bm := fun e => hbm (h.mf _ (h.ml _ e))
  refine ⟨heap3_set2 hr4 _, h.cells.kept (hk cb (h.fl _ (h.mf _ h.mc)) h.r_cb.symm (fun e => (h.row_ne e).2 rfl)), ?_, ?_, ⟨?_, ?_⟩, ?_, .inl h.mr, .inl h.mc, fun k e => .inr (.inr (by simp [Value.ownBlock] at e; exact e.symm)), ?_, ?_, ?_, ?_⟩
  · refine h.chain.kept (fun k hk' => hk k (h.fl k hk'.1) (fun e => hk'.2 (e ▸ h.mr)) (fun e => hk'.2 (hmr k e))) (fun k hk' => ⟨.inl hk'.1, ?_⟩)
    rintro (h1 | rfl | rfl)
    · exact hk'.2 h1
    · exact hbm hk'.1
    · rcases ha with ha | rfl
      · exact hk'.2 (hmr _ ha)
      · have := h.fl _ hk'.1; omega
  · have e1 : rowOf ps ((m, T) :: J.L) (bm :: bs) = rowOf ps J.L bs ++ [.pointer (hd (ps.drop (ps.length - m))), .map (some bm)] := rfl
    simp only [List.length_cons, hd0, e1]
    exact ho.kept fun k e => by
      simp [Value.ownBlock] at e
      subst e
      exact hs.block g hgl (fun e => hgr (by cases e; rfl))
  · exact hm.kept (hk bm hbl (fun e => hbm (e ▸ h.mf _ h.mr)) hbo)
  · refine h.sets.kept fun b hb => hk b (h.fl _ (h.mf _ (h.mb b hb))) (h.map_ne hb).1 (fun e => (h.map_ne hb).2.2 b e rfl)
  · exact List.nodup_cons.2 ⟨fun hb => hbm (h.mf _ (h.mb _ hb)), h.nd⟩
  · intro b hb
    rcases List.mem_cons.1 hb with rfl | hb
    · exact .inr (.inl rfl)
    · exact .inl (h.mb b hb)
  · rintro k (h1 | h1)
    · exact .inl (h.mf k h1)
    · exact .inr h1
  · rintro k (h1 | rfl | rfl)
    · rw [hsz]; exact Nat.lt_of_lt_of_le (h.fl k h1) hg.size
    · rw [hsz]; exact Nat.lt_of_lt_of_le hbl hg.size
    · rw [hsz]; exact hgl
  · refine ⟨h.ok.pos, h.ok.most, h.ok.ws, h.ok.us, fun p hp => ?_, fun p hp => ?_, by simp only [List.length_cons]; omega, List.Pairwise.cons hmo h.ok.mo⟩
    · rcases List.mem_cons.1 hp with rfl | hp
      · exact hT
      · exact h.ok.ts p hp
    · rcases List.mem_cons.1 hp with rfl | hp
      · exact hmU
      · exact h.ok.ms p hp

/-- The copy's head. -/
theorem Jg.headed {W3 : World} {cb cc cb' cc' rc : Nat} {ps : List Nat} {lv : Value} {bs : List Nat} (h : Jg W M F r J cb cc ps lv bs) (hB : Below W.heap.size W W3) (hO : OwnC W3 cb' cc' J.C) (hcb : W.heap.size ≤ cb') (hrc : W.heap.size ≤ rc)
    (hr : W3.heap[rc]? = some (.cells #[.slice (some ⟨cb', 0, none⟩) J.C.length cc', .pointer (hd ps), .slice none 0 0] 65 (0, 0))) :
    Jg W3 (fun k => k = cb' ∨ k = rc) (fun k => (F k ∧ ¬ M k) ∨ k = cb' ∨ k = rc) rc { J with L := [] } cb' cc' ps (.slice none 0 0) [] := by
  obtain ⟨cur, hcur⟩ := hO.typed
  refine ⟨hr, hO, h.chain.kept (fun k hk => hB.block k (h.fl k hk.1)) (fun k hk => ⟨.inl hk, by rintro (rfl | rfl) <;> (have := h.fl _ hk.1; omega)⟩), LRow.nil _ _ _, trivial, List.nodup_nil, .inr rfl, .inl rfl, fun g e => by simp [Value.ownBlock] at e, by simp, fun k hk => .inr hk, ?_, ⟨h.ok.pos, h.ok.most, h.ok.ws, h.ok.us, by simp, by simp, by simp, by simp⟩⟩
  · rintro k (h1 | rfl | rfl)
    · exact Nat.lt_of_lt_of_le (h.fl k h1.1) hB.size
    · exact lt_of_block hcur
    · exact lt_of_block hr
end
end Go.Proofs.Ytkpfnonacebmkaa
