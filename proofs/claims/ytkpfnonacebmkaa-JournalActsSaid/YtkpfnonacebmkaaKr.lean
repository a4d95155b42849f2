/- How the document's journal lies in memory. -/
import Derived.Test.YtkpfnonacebmkaaKs
import Derived.Test.YtkpfnonacebmkaaTc
namespace Go.Proofs.Ytkpfnonacebmkaa
open Go.RowKit

theorem LRow.stored {w : World} {e : TypeId} {size n c g : Nat} {xs : List Value} (h : LRow w e size (.slice (some ⟨g, 0, none⟩) n c) n xs) {j : Nat} (u : Value) (hj : j < xs.length) :
    LRow (w.setCell ⟨g, j, none⟩ u) e size (.slice (some ⟨g, 0, none⟩) n c) n (xs.set j u) := by
  refine ⟨by rw [List.length_set]; exact h.1, .inr ?_⟩
  rcases h.2 with ⟨h1, _⟩ | ⟨g', cap, cur, h1, h2, h3, h4, h5, h6⟩
  · simp at h1
  · simp only [Value.slice.injEq, Option.some.injEq, Addr.mk.injEq, and_true, true_and] at h1
    obtain ⟨rfl, rfl⟩ := h1
    have hl := h.1
    have hjc : j < cur.size := by
      have := congrArg List.length h6
      simp only [List.length_take, Array.length_toList] at this
      omega
    refine ⟨g, c, cur.set j u hjc, rfl, ?_, h3, h4, by simpa using h5, ?_⟩
    · simp [World.setCell, Array.getElem?_modify, h2, Array.set!_eq_setIfInBounds, Array.setIfInBounds, hjc]
    · rw [Array.toList_set, List.take_set, h6]
theorem LRow.cutTo {w : World} {e : TypeId} {size : Nat} {n : Nat} {xs : List Value} {wo : Option Addr} {wc : Nat} (h : LRow w e size (.slice wo n wc) n xs) {k : Nat} (hk : k ≤ n) : LRow w e size (.slice wo k wc) k (xs.take (k * size)) := by
  have hkn : k * size ≤ n * size := Nat.mul_le_mul_right _ hk
  refine ⟨by rw [List.length_take, h.1]; omega, ?_⟩
  rcases h.2 with ⟨e, h0⟩ | ⟨g, cap, cur, e, hg, h1, h2, h3, h4⟩
  · simp only [Value.slice.injEq] at e
    obtain ⟨rfl, _, rfl⟩ := e
    exact .inl ⟨by rw [show k = 0 from by omega], by omega⟩
  · simp only [Value.slice.injEq] at e
    obtain ⟨rfl, _, rfl⟩ := e
    refine .inr ⟨g, wc, cur, rfl, hg, by omega, h2, h3, ?_⟩
    rw [← h4, List.take_take]; congr 1; omega

/-- A level's blocks: its old cells (block, capacity), its set's slice. -/
abbrev LB := Nat × Nat × Value
/-- The open levels as they stand in their row, the topmost last. -/
def rowK : List (List Int × List Int) → List LB → List Value
  | [], _ => []
  | (w, _) :: L, (b, c, sv) :: ws => rowK L ws ++ [.slice (some ⟨b, 0, none⟩) w.length c, sv]
  | _ :: _, [] => []
theorem rowK_length : ∀ {L : List (List Int × List Int)} {ws : List LB}, ws.length = L.length → (rowK L ws).length = L.length * 2
  | [], _, _ => rfl
  | _ :: L, b :: ws, h => by
    have := rowK_length (L := L) (ws := ws) (by simpa using h)
    simp only [rowK, List.length_append, List.length_cons, List.length_nil, this]; omega
  | _ :: _, [], h => by simp at h
theorem rowK_at : ∀ {L : List (List Int × List Int)} {ws : List LB} {p : Nat} {w S : List Int} {b c : Nat} {sv : Value}, ws.length = L.length → L[p]? = some (w, S) → ws[p]? = some (b, c, sv) →
    (rowK L ws)[(L.length - 1 - p) * 2]? = some (.slice (some ⟨b, 0, none⟩) w.length c) ∧ (rowK L ws)[(L.length - 1 - p) * 2 + 1]? = some sv
  | [], _, _, _, _, _, _, _, _, h, _ => by simp at h
  | _ :: _, [], _, _, _, _, _, _, h, _, _ => by simp at h
  | (w', S') :: L, (b', c', sv') :: ws, 0, w, S, b, c, sv, h, h1, h2 => by
    have hl := rowK_length (L := L) (ws := ws) (by simpa using h)
    simp only [List.getElem?_cons_zero, Option.some.injEq, Prod.mk.injEq] at h1 h2
    obtain ⟨rfl, rfl⟩ := h1
    obtain ⟨rfl, rfl, rfl⟩ := h2
    simp only [rowK, List.length_cons, Nat.add_sub_cancel, Nat.sub_zero]
    constructor
    · rw [List.getElem?_append_right (by omega)]; simp [hl]
    · rw [List.getElem?_append_right (by omega)]; simp [hl]
  | (w', S') :: L, (b', c', sv') :: ws, p + 1, w, S, b, c, sv, h, h1, h2 => by
    have hl := rowK_length (L := L) (ws := ws) (by simpa using h)
    have hp : p < L.length := by have := (List.getElem?_eq_some_iff.1 h1).1; simpa using this
    obtain ⟨g1, g2⟩ := rowK_at (L := L) (ws := ws) (p := p) (by simpa using h) (by simpa using h1) (by simpa using h2)
    simp only [rowK, List.length_cons, Nat.add_sub_cancel]
    rw [show L.length - (p + 1) = L.length - 1 - p by omega]
    constructor
    · rw [List.getElem?_append_left (by omega)]; exact g1
    · rw [List.getElem?_append_left (by omega)]; exact g2
theorem rowK_set : ∀ {L : List (List Int × List Int)} {ws : List LB} {p : Nat} {w S : List Int} {b c : Nat} {sv : Value} (S' : List Int) (sv' : Value), ws.length = L.length → L[p]? = some (w, S) → ws[p]? = some (b, c, sv) →
    (rowK L ws).set ((L.length - 1 - p) * 2 + 1) sv' = rowK (L.set p (w, S')) (ws.set p (b, c, sv'))
  | [], _, _, _, _, _, _, _, _, _, _, h, _ => by simp at h
  | _ :: _, [], _, _, _, _, _, _, _, _, h, _, _ => by simp at h
  | (w', S0) :: L, (b', c', sv0) :: ws, 0, w, S, b, c, sv, S', sv', h, h1, h2 => by
    have hl := rowK_length (L := L) (ws := ws) (by simpa using h)
    simp only [List.getElem?_cons_zero, Option.some.injEq, Prod.mk.injEq] at h1 h2
    obtain ⟨rfl, rfl⟩ := h1
    obtain ⟨rfl, rfl, rfl⟩ := h2
    simp only [rowK, List.length_cons, Nat.add_sub_cancel, Nat.sub_zero, List.set_cons_zero]
    rw [List.set_append_right _ _ (by omega), hl, show L.length * 2 + 1 - L.length * 2 = 1 by omega]
    rfl
  | (w', S0) :: L, (b', c', sv0) :: ws, p + 1, w, S, b, c, sv, S', sv', h, h1, h2 => by
    have hl := rowK_length (L := L) (ws := ws) (by simpa using h)
    have hp : p < L.length := by have := (List.getElem?_eq_some_iff.1 h1).1; simpa using this
    have g := rowK_set (L := L) (ws := ws) (p := p) S' sv' (by simpa using h) (by simpa using h1) (by simpa using h2)
    simp only [rowK, List.length_cons, Nat.add_sub_cancel, List.set_cons_succ]
    rw [show L.length - (p + 1) = L.length - 1 - p by omega, List.set_append_left _ _ (by omega), g]

structure KS.Ok (K : KS) : Prop where
  pos : 0 < K.C.length
  most : K.C.length ≤ 4096
  ws : Ws K.C
  was : ∀ p ∈ K.L, p.1.length = K.C.length ∧ Ws p.1
  dp : K.L.length ≤ 64

/-- The document's journal lies at r; F: all blocks that it is made of. -/
structure Kg (W : World) (F : Nat → Prop) (r : Nat) (K : KS) (cb cc : Nat) (lv : Value) (ws : List LB) : Prop where
  hr : W.heap[r]? = some (.cells #[.slice (some ⟨cb, 0, none⟩) K.C.length cc, lv] 70 (0, 0))
  cells : OwnC W cb cc K.C
  row : LRow W 76 2 lv K.L.length (rowK K.L ws)
  len : ws.length = K.L.length
  at' : ∀ (p : Nat) (w S : List Int) (b c : Nat) (sv : Value), K.L[p]? = some (w, S) → ws[p]? = some (b, c, sv) → OwnC W b c w ∧ LRow W 3 1 sv S.length (S.map (Value.int .i64))
  dc : ∀ (p b c : Nat) (sv : Value), ws[p]? = some (b, c, sv) → b ≠ cb
  dw : ∀ (p q b c : Nat) (sv : Value) (c' : Nat) (sv' : Value), ws[p]? = some (b, c, sv) → ws[q]? = some (b, c', sv') → p = q
  ds : ∀ (p q b c : Nat) (sv : Value) (b' c' : Nat) (sv' : Value) (g : Nat), ws[p]? = some (b, c, sv) → ws[q]? = some (b', c', sv') → sv.ownBlock = some g → sv'.ownBlock = some g → p = q
  mr : F r
  mc : F cb
  ml : ∀ g, lv.ownBlock = some g → F g
  mw : ∀ (p b c : Nat) (sv : Value), ws[p]? = some (b, c, sv) → F b ∧ ∀ g, sv.ownBlock = some g → F g
  fl : ∀ k, F k → k < W.heap.size
  ok : K.Ok
def Kn (W : World) (F : Nat → Prop) (r : Nat) (K : KS) : Prop := ∃ cb cc lv ws, Kg W F r K cb cc lv ws

section
variable {W W' : World} {F : Nat → Prop} {r : Nat} {K : KS} {cb cc : Nat} {lv : Value} {ws : List LB}
theorem Kg.pair (h : Kg W F r K cb cc lv ws) {p : Nat} {x : LB} (hp : ws[p]? = some x) : ∃ w S, K.L[p]? = some (w, S) := by
  have hl : p < K.L.length := by rw [← h.len]; exact (List.getElem?_eq_some_iff.1 hp).1
  exact ⟨_, _, by rw [List.getElem?_eq_getElem hl]⟩
theorem Kg.kept (h : Kg W F r K cb cc lv ws) (hs : W.heap.size ≤ W'.heap.size) (hk : ∀ k, F k → W'.heap[k]? = W.heap[k]?) : Kg W' F r K cb cc lv ws :=
  ⟨(hk _ h.mr).trans h.hr, h.cells.kept (hk _ h.mc), h.row.kept fun g hg => hk g (h.ml g hg), h.len,
    fun p w S b c sv h1 h2 => ⟨(h.at' p w S b c sv h1 h2).1.kept (hk _ (h.mw p b c sv h2).1), (h.at' p w S b c sv h1 h2).2.kept fun g hg => hk g ((h.mw p b c sv h2).2 g hg)⟩,
    h.dc, h.dw, h.ds, h.mr, h.mc, h.ml, h.mw, fun k hk' => Nat.lt_of_lt_of_le (h.fl k hk') hs, h.ok⟩
theorem Kg.below (h : Kg W F r K cb cc lv ws) (hb : Below W.heap.size W W') : Kg W' F r K cb cc lv ws :=
  h.kept hb.size fun k hk => hb.block k (h.fl k hk)
theorem Kn.kept (h : Kn W F r K) (hs : W.heap.size ≤ W'.heap.size) (hk : ∀ k, F k → W'.heap[k]? = W.heap[k]?) : Kn W' F r K := by
  obtain ⟨cb, cc, lv, ws, h⟩ := h; exact ⟨cb, cc, lv, ws, h.kept hs hk⟩
theorem Kn.below (h : Kn W F r K) (hb : Below W.heap.size W W') : Kn W' F r K := by
  obtain ⟨cb, cc, lv, ws, h⟩ := h; exact ⟨cb, cc, lv, ws, h.below hb⟩
theorem Kn.ok (h : Kn W F r K) : K.Ok := by obtain ⟨_, _, _, _, h⟩ := h; exact h.ok
theorem Kn.fl (h : Kn W F r K) : ∀ k, F k → k < W.heap.size := by obtain ⟨_, _, _, _, h⟩ := h; exact h.fl

/-- What blocks are of: no two kinds share one. -/
theorem Kg.r_cb (h : Kg W F r K cb cc lv ws) : r ≠ cb := by
  obtain ⟨cur, hc⟩ := h.cells.typed
  exact ne_of_types h.hr hc (by decide)
theorem Kg.row_ne (h : Kg W F r K cb cc lv ws) {g : Nat} (hg : lv.ownBlock = some g) : g ≠ r ∧ g ≠ cb := by
  obtain ⟨cur, hc⟩ := h.cells.typed
  obtain ⟨cur', hr⟩ := h.row.lt hg
  exact ⟨ne_of_types hr h.hr (by decide), ne_of_types hr hc (by decide)⟩
theorem Kg.was_ne (h : Kg W F r K cb cc lv ws) {p b c : Nat} {sv : Value} (hp : ws[p]? = some (b, c, sv)) : b ≠ r ∧ b ≠ cb ∧ ∀ g, lv.ownBlock = some g → b ≠ g := by
  obtain ⟨w, S, hL⟩ := h.pair hp
  obtain ⟨cur, hc⟩ := (h.at' p w S b c sv hL hp).1.typed
  refine ⟨ne_of_types hc h.hr (by decide), h.dc p b c sv hp, fun g hg => ?_⟩
  obtain ⟨cur', hr⟩ := h.row.lt hg
  exact ne_of_types hc hr (by decide)
theorem Kg.set_ne (h : Kg W F r K cb cc lv ws) {p b c g : Nat} {sv : Value} (hp : ws[p]? = some (b, c, sv)) (hg : sv.ownBlock = some g) :
    g ≠ r ∧ g ≠ cb ∧ (∀ k, lv.ownBlock = some k → g ≠ k) ∧ ∀ (q b' c' : Nat) (sv' : Value), ws[q]? = some (b', c', sv') → g ≠ b' := by
  obtain ⟨w, S, hL⟩ := h.pair hp
  obtain ⟨cur, hc⟩ := (h.at' p w S b c sv hL hp).2.lt hg
  obtain ⟨cur2, hc2⟩ := h.cells.typed
  refine ⟨ne_of_types hc h.hr (by decide), ne_of_types hc hc2 (by decide), fun k hk => ?_, fun q b' c' sv' hq => ?_⟩
  · obtain ⟨cur', hr⟩ := h.row.lt hk
    exact ne_of_types hc hr (by decide)
  · obtain ⟨w', S', hL'⟩ := h.pair hq
    obtain ⟨cur', hr⟩ := (h.at' q w' S' b' c' sv' hL' hq).1.typed
    exact ne_of_types hc hr (by decide)

/-- A cell is written. -/
theorem Kg.setC (h : Kg W F r K cb cc lv ws) {i : Nat} (hi : i < K.C.length) {n : Int} (hn : W64 n) : Kg (W.setCell ⟨cb, i, none⟩ (.int .u64 n)) F r { K with C := K.C.set i n } cb cc lv ws := by
  have hg : W.grownBy (W.setCell ⟨cb, i, none⟩ (.int .u64 n)) (some cb) := grown_set _
  have hk : ∀ k, k < W.heap.size → k ≠ cb → (W.setCell ⟨cb, i, none⟩ (.int .u64 n)).heap[k]? = W.heap[k]? := fun k hk hne => hg.block k hk (fun e => hne (by cases e; rfl))
  have hst := (World.ownsRow.stored h.cells i (.int .u64 n)).1
  have hsz : (W.setCell ⟨cb, i, none⟩ (.int .u64 n)).heap.size = W.heap.size := by simp [World.setCell]
  refine ⟨?_, ?_, ?_, h.len, ?_, h.dc, h.dw, h.ds, h.mr, h.mc, h.ml, h.mw, fun k hk => by rw [hsz]; exact h.fl k hk, ?_⟩
  · simp only [List.length_set]; exact (hk _ (lt_of_block h.hr) h.r_cb).trans h.hr
  · unfold OwnC; simp only [List.length_set]; rw [List.map_set]; exact hst
  · exact h.row.kept fun g hg => hk g (h.fl _ (h.ml g hg)) (h.row_ne hg).2
  · intro p w S b c sv h1 h2
    obtain ⟨k1, k2⟩ := h.at' p w S b c sv h1 h2
    exact ⟨k1.kept (hk _ (h.fl _ (h.mw p b c sv h2).1) (h.was_ne h2).2.1), k2.kept fun g hg => hk g (h.fl _ ((h.mw p b c sv h2).2 g hg)) (h.set_ne h2 hg).2.1⟩
  · exact ⟨by simpa using h.ok.pos, by simpa using h.ok.most, h.ok.ws.set i hn, fun p hp => by simpa using h.ok.was p hp, h.ok.dp⟩

/-- A level's set is written. -/
theorem Kg.setAt' {g lc : Nat} (h : Kg W F r K cb cc (.slice (some ⟨g, 0, none⟩) K.L.length lc) ws) {p : Nat} {w S S' : List Int} {b c : Nat} {sv sv' : Value} (hL : K.L[p]? = some (w, S)) (hw : ws[p]? = some (b, c, sv)) {w4 : World}
    (hrow : LRow w4 3 1 sv' S'.length (S'.map (Value.int .i64))) (hg : W.grownBy w4 sv.ownBlock) (ha : sv'.ownBlock = sv.ownBlock ∨ ∃ g', sv'.ownBlock = some g' ∧ W.heap.size ≤ g' ∧ g' < w4.heap.size) :
    Kg (w4.setCell ⟨g, (K.L.length - 1 - p) * 2 + 1, none⟩ sv') (fun k => F k ∨ sv'.ownBlock = some k) r { K with L := K.L.set p (w, S') } cb cc (.slice (some ⟨g, 0, none⟩) K.L.length lc) (ws.set p (b, c, sv')) := by
  have hs : w4.grownBy (w4.setCell ⟨g, (K.L.length - 1 - p) * 2 + 1, none⟩ sv') (some g) := grown_set _
  have hp : p < K.L.length := (List.getElem?_eq_some_iff.1 hL).1
  have hpw : p < ws.length := by rw [h.len]; exact hp
  have kg : ∀ k, k < w4.heap.size → k ≠ g → (w4.setCell ⟨g, (K.L.length - 1 - p) * 2 + 1, none⟩ sv').heap[k]? = w4.heap[k]? := fun k hk hne => hs.block k hk (fun e => hne (by cases e; rfl))
  have hk : ∀ k, F k → k ≠ g → sv.ownBlock ≠ some k → (w4.setCell ⟨g, (K.L.length - 1 - p) * 2 + 1, none⟩ sv').heap[k]? = W.heap[k]? := fun k hk hne hno =>
    (kg k (Nat.lt_of_lt_of_le (h.fl k hk) hg.size) hne).trans (hg.block k (h.fl k hk) (fun e => hno e.symm))
  have hsz : (w4.setCell ⟨g, (K.L.length - 1 - p) * 2 + 1, none⟩ sv').heap.size = w4.heap.size := by simp [World.setCell]
  have hgg : (Value.slice (some ⟨g, 0, none⟩) K.L.length lc).ownBlock = some g := rfl
  have hFg : F g := h.ml g hgg
  have hsg : ∀ k, sv.ownBlock = some k → k ≠ g := fun k hk e => (h.set_ne hw hk).2.2.1 g rfl e
  have hsg' : ∀ k, sv'.ownBlock = some k → k ≠ g ∧ k < w4.heap.size := fun k hk' => by
    rcases ha with ha | ⟨g', ha, h1, h2⟩
    · rw [ha] at hk'; exact ⟨hsg k hk', Nat.lt_of_lt_of_le (h.fl _ ((h.mw p b c sv hw).2 k hk')) hg.size⟩
    · rw [ha] at hk'; cases hk'; exact ⟨fun e => by have := h.fl _ hFg; omega, h2⟩
  have get : ∀ {q : Nat} {b' c' : Nat} {v : Value}, (ws.set p (b, c, sv'))[q]? = some (b', c', v) → (q = p ∧ b' = b ∧ c' = c ∧ v = sv') ∨ (q ≠ p ∧ ws[q]? = some (b', c', v)) := fun {q b' c' v} e => by
    by_cases hq : q = p
    · subst hq
      rw [List.getElem?_set_self hpw] at e
      simp only [Option.some.injEq, Prod.mk.injEq] at e
      exact .inl ⟨rfl, e.1.symm, e.2.1.symm, e.2.2.symm⟩
    · rw [List.getElem?_set_ne (Ne.symm hq)] at e
      exact .inr ⟨hq, e⟩
  have hro : sv.ownBlock ≠ some r := fun e => (h.set_ne hw e).1 rfl
  have hco : sv.ownBlock ≠ some cb := fun e => (h.set_ne hw e).2.1 rfl
  have hgo : sv.ownBlock ≠ some g := fun e => hsg g e rfl
  refine ⟨(hk r h.mr (h.row_ne hgg).1.symm hro).trans ?_, h.cells.kept (hk cb h.mc (h.row_ne hgg).2.symm hco), ?_, ?_, ?_, ?_, ?_, ?_, .inl h.mr, .inl h.mc, fun k e => .inl (h.ml k e), ?_, ?_, ?_⟩
  · exact h.hr
  · have h4 : LRow w4 76 2 (.slice (some ⟨g, 0, none⟩) K.L.length lc) K.L.length (rowK K.L ws) := h.row.kept fun k e => by
      cases e
      exact hg.block g (h.fl g hFg) (fun e => hgo e.symm)
    have h5 := h4.stored (j := (K.L.length - 1 - p) * 2 + 1) sv' (by rw [rowK_length h.len]; omega)
    rw [rowK_set S' sv' h.len hL hw] at h5
    simpa using h5
  · simpa using h.len
  · intro q w' S0 b' c' v h1 h2
    rcases get h2 with ⟨rfl, rfl, rfl, rfl⟩ | ⟨hq, h2'⟩
    · simp only [List.getElem?_set_self hp, Option.some.injEq, Prod.mk.injEq] at h1
      obtain ⟨rfl, rfl⟩ := h1
      refine ⟨(h.at' q w S b' c' sv hL hw).1.kept (hk b' (h.mw q b' c' sv hw).1 ((h.was_ne hw).2.2 g rfl) (fun e => (h.set_ne hw e).2.2.2 q b' c' sv hw rfl)), hrow.kept fun k e => kg k (hsg' k e).2 (hsg' k e).1⟩
    · simp only [List.getElem?_set_ne (Ne.symm hq)] at h1
      obtain ⟨k1, k2⟩ := h.at' q w' S0 b' c' v h1 h2'
      obtain ⟨m1, m2⟩ := h.mw q b' c' v h2'
      exact ⟨k1.kept (hk b' m1 ((h.was_ne h2').2.2 g rfl) (fun e => (h.set_ne hw e).2.2.2 q b' c' v h2' rfl)), k2.kept fun k e => hk k (m2 k e) ((h.set_ne h2' e).2.2.1 g rfl) (fun e' => hq (h.ds q p b' c' v b c sv k h2' hw e e'))⟩
  · intro q b' c' v h2
    rcases get h2 with ⟨rfl, rfl, rfl, rfl⟩ | ⟨hq, h2'⟩
    · exact h.dc q b' c' sv hw
    · exact h.dc q b' c' v h2'
  · intro q q' b' c1 v1 c2 v2 h1 h2
    rcases get h1 with ⟨rfl, rfl, rfl, rfl⟩ | ⟨hq, h1'⟩ <;> rcases get h2 with ⟨rfl, hb2, rfl, rfl⟩ | ⟨hq', h2'⟩
    · rfl
    · exact h.dw q q' _ _ _ _ _ hw h2'
    · subst hb2; exact h.dw q q' _ _ _ _ _ h1' hw
    · exact h.dw q q' _ _ _ _ _ h1' h2'
  · have key : ∀ (q b' c' : Nat) (v : Value) (k : Nat), q ≠ p → ws[q]? = some (b', c', v) → v.ownBlock = some k → sv'.ownBlock = some k → False := fun q b' c' v k hq h2 e1 e2 => by
      rcases ha with ha | ⟨g', ha, h1, h2'⟩
      · rw [ha] at e2; exact hq (h.ds q p b' c' v b c sv k h2 hw e1 e2)
      · rw [ha] at e2; cases e2
        have := h.fl _ ((h.mw q b' c' v h2).2 _ e1); omega
    intro q q' b1 c1 v1 b2 c2 v2 k h1 h2 e1 e2
    rcases get h1 with ⟨rfl, rfl, rfl, rfl⟩ | ⟨hq, h1'⟩ <;> rcases get h2 with ⟨rfl, rfl, rfl, rfl⟩ | ⟨hq', h2'⟩
    · rfl
    · exact (key q' b2 c2 v2 k hq' h2' e2 e1).elim
    · exact (key q b1 c1 v1 k hq h1' e1 e2).elim
    · exact h.ds q q' _ _ _ _ _ _ k h1' h2' e1 e2
  · intro q b' c' v h2
    rcases get h2 with ⟨rfl, rfl, rfl, rfl⟩ | ⟨hq, h2'⟩
    · exact ⟨.inl (h.mw q b' c' sv hw).1, fun k e => .inr e⟩
    · exact ⟨.inl (h.mw q b' c' v h2').1, fun k e => .inl ((h.mw q b' c' v h2').2 k e)⟩
  · rintro k (h1 | h1)
    · rw [hsz]; exact Nat.lt_of_lt_of_le (h.fl k h1) hg.size
    · rw [hsz]; exact (hsg' k h1).2
  · refine ⟨h.ok.pos, h.ok.most, h.ok.ws, fun q hq => ?_, by simpa using h.ok.dp⟩
    rcases List.mem_or_eq_of_mem_set hq with h1 | rfl
    · exact h.ok.was q h1
    · exact h.ok.was (w, S) (List.mem_of_getElem? hL)
theorem Kg.setAt {g lc m : Nat} (h : Kg W F r K cb cc (.slice (some ⟨g, 0, none⟩) m lc) ws) (hm : K.L.length = m) {p : Nat} {w S S' : List Int} {b c : Nat} {sv sv' : Value} (hL : K.L[p]? = some (w, S)) (hw : ws[p]? = some (b, c, sv)) {w4 : World}
    (hrow : LRow w4 3 1 sv' S'.length (S'.map (Value.int .i64))) (hg : W.grownBy w4 sv.ownBlock) (ha : sv'.ownBlock = sv.ownBlock ∨ ∃ g', sv'.ownBlock = some g' ∧ W.heap.size ≤ g' ∧ g' < w4.heap.size) :
    Kg (w4.setCell ⟨g, (m - 1 - p) * 2 + 1, none⟩ sv') (fun k => F k ∨ sv'.ownBlock = some k) r { K with L := K.L.set p (w, S') } cb cc (.slice (some ⟨g, 0, none⟩) m lc) (ws.set p (b, c, sv')) := by
  subst hm
  exact h.setAt' hL hw hrow hg ha
end
end Go.Proofs.Ytkpfnonacebmkaa
