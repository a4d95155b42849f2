/- Two journals beside a list of lists of cells. -/
import Derived.Test.YtkpfnonacebmkaaKq
import Derived.Test.YtkpfnonacebmkaaMv
namespace Go.Proofs.Ytkpfnonacebmkaa
open Go.RowKit

/-- The lists of a row of slices; X: the blocks they lie in. -/
def Lists (w : World) (X : Nat → Prop) (vs : List Value) (ls : List (List Int)) : Prop :=
  vs.length = ls.length ∧ ∀ (i : Nat) (l : List Int), ls[i]? = some l → ∃ b o cap, vs[i]? = some (.slice (some ⟨b, o, none⟩) l.length cap) ∧ X b ∧ Rd w (some ⟨b, o, none⟩) l
theorem Rd.keptAt {w w' : World} {b o : Nat} {l : List Int} (h : Rd w (some ⟨b, o, none⟩) l) (hk : w'.heap[b]? = w.heap[b]?) : Rd w' (some ⟨b, o, none⟩) l := fun k hk' => by
  obtain ⟨b', o', h1, h2⟩ := h k hk'
  simp only [Option.some.injEq, Addr.mk.injEq, and_true] at h1
  obtain ⟨rfl, rfl⟩ := h1
  refine ⟨b, o, rfl, ?_⟩
  rw [← h2]; simp only [World.cell?, hk]
theorem Lists.kept {w w' : World} {X : Nat → Prop} {vs : List Value} {ls : List (List Int)} (h : Lists w X vs ls) (hk : ∀ k, X k → w'.heap[k]? = w.heap[k]?) : Lists w' X vs ls :=
  ⟨h.1, fun i l hl => by obtain ⟨b, o, cap, h1, h2, h3⟩ := h.2 i l hl; exact ⟨b, o, cap, h1, h2, h3.keptAt (hk b h2)⟩⟩

structure Tw (W : World) (X M1 F1 M2 F2 : Nat → Prop) (rj rk : Nat) (J K : JS) (wo : Option Addr) (wc : Nat) (vs : List Value) (ws : List (List Int)) (w : World) : Prop where
  j : Jn w M1 F1 rj J
  k : Jn w M2 F2 rk K
  lo1 : ∀ b, M1 b → W.heap.size ≤ b
  lo2 : ∀ b, M2 b → W.heap.size ≤ b
  b : Below W.heap.size W w
  f12 : ∀ b, F1 b → ¬ F2 b
  x : ∀ b, X b → b < w.heap.size ∧ ¬ F1 b ∧ ¬ F2 b ∧ (∀ g, wo = some ⟨g, 0, none⟩ → b ≠ g)
  row : LRow w 43 1 (.slice wo ws.length wc) ws.length vs
  r : ∀ g, wo = some ⟨g, 0, none⟩ → W.heap.size ≤ g ∧ g < w.heap.size ∧ ¬ F1 g ∧ ¬ F2 g
  ls : Lists w X vs ws.reverse
/-- Two journals of the call's own, and the list of lists; G: more that stays. -/
def Tws (W : World) (G : Nat → Prop) (rj rk : Nat) (J K : JS) (wo : Option Addr) (wc : Nat) (ws : List (List Int)) (w : World) : Prop :=
  ∃ X M1 F1 M2 F2 vs, (∀ k, G k → X k) ∧ Tw W X M1 F1 M2 F2 rj rk J K wo wc vs ws w
section
variable {N : Nat} {W w w' : World} {G X M1 F1 M2 F2 : Nat → Prop} {rj rk : Nat} {J J' K K' : JS} {wo : Option Addr} {wc : Nat} {vs : List Value} {ws : List (List Int)}
theorem row_own {g : Nat} {n c : Nat} (h : (Value.slice wo n c).ownBlock = some g) (hr : LRow w 43 1 (.slice wo n c) n vs) : wo = some ⟨g, 0, none⟩ := by
  rcases hr.2 with ⟨e, _⟩ | ⟨g', cap, cur, e, _⟩
  · simp only [Value.slice.injEq] at e; obtain ⟨rfl, _⟩ := e; simp [Value.ownBlock] at h
  · simp only [Value.slice.injEq] at e; obtain ⟨rfl, _⟩ := e; simp [Value.ownBlock] at h; rw [h]
theorem Jn.fl' {w : World} {M F : Nat → Prop} {r : Nat} {J : JS} (h : Jn w M F r J) : ∀ b, F b → b < w.heap.size := by obtain ⟨_, _, _, _, _, h⟩ := h; exact h.fl
theorem Tw.actj (hG : ∀ k, G k → X k) (h : Tw W X M1 F1 M2 F2 rj rk J K wo wc vs ws w) (hj : Jst w M1 F1 rj w' J') : Tws W G rj rk J' K wo wc ws w' ∧ Kept G w w' := by
  obtain ⟨M1', F1', hn, hs⟩ := hj
  have km : ∀ b, b < w.heap.size → ¬ F1 b → w'.heap[b]? = w.heap[b]? := fun b hb hf => hs.block b hb fun hm => hf (h.j.mf b hm)
  have f2l := h.k.fl'
  have n1 : ∀ b, b < w.heap.size → ¬ F1 b → ¬ F1' b := fun b hb hf hf' => by
    rcases hs.ff b hf' with h1 | h1
    · exact hf h1
    · omega
  refine ⟨⟨X, M1', F1', M2, F2, vs, hG, hn, h.k.kept hs.size fun b hb => km b (f2l b hb) (fun hf => h.f12 b hf hb), fun b hb => ?_, h.lo2, h.b.trans (hs.below h.b.size h.lo1), fun b hb hb2 => n1 b (f2l b hb2) (fun hf => h.f12 b hf hb2) hb, fun b hb => ?_, h.row.kept fun g hg => ?_, fun g hg => ?_, h.ls.kept fun b hb => ?_⟩, hs.size, fun b hb => km b (h.x b (hG b hb)).1 (h.x b (hG b hb)).2.1⟩
  · rcases hs.mm b hb with h1 | h1
    · exact h.lo1 b h1
    · exact Nat.le_trans h.b.size h1
  · obtain ⟨x1, x2, x3, x4⟩ := h.x b hb
    exact ⟨Nat.lt_of_lt_of_le x1 hs.size, n1 b x1 x2, x3, x4⟩
  · obtain ⟨_, r2, r3, _⟩ := h.r g (row_own hg h.row)
    exact km g r2 r3
  · obtain ⟨r1, r2, r3, r4⟩ := h.r g hg
    exact ⟨r1, Nat.lt_of_lt_of_le r2 hs.size, n1 g r2 r3, r4⟩
  · obtain ⟨x1, x2, _⟩ := h.x b hb
    exact km b x1 x2
theorem Tw.swap (h : Tw W X M1 F1 M2 F2 rj rk J K wo wc vs ws w) : Tw W X M2 F2 M1 F1 rk rj K J wo wc vs ws w :=
  ⟨h.k, h.j, h.lo2, h.lo1, h.b, fun b h2 h1 => h.f12 b h1 h2, fun b hb => by obtain ⟨a, b, c, d⟩ := h.x b hb; exact ⟨a, c, b, d⟩, h.row, fun g hg => by obtain ⟨a, b, c, d⟩ := h.r g hg; exact ⟨a, b, d, c⟩, h.ls⟩
theorem Tws.swap (h : Tws W G rj rk J K wo wc ws w) : Tws W G rk rj K J wo wc ws w := by
  obtain ⟨X, M1, F1, M2, F2, vs, hG, h⟩ := h; exact ⟨X, M2, F2, M1, F1, vs, hG, h.swap⟩
theorem Tws.does (h : Tws W G rj rk J K wo wc ws w) (kind i k : Int) {n : Int} (hn : W64 n) : Calls Try.prog 31 #[.pointer (some ⟨rj, 0, none⟩), .agg #[.int .i64 kind, .int .i64 i, .int .i64 k, .int .u64 n]] w fun e w' => e = .returned (.int .i64 (J.does kind i k n).2) ∧ (Tws W G rj rk (J.does kind i k n).1 K wo wc ws w' ∧ Kept G w w') := by
  obtain ⟨X, M1, F1, M2, F2, vs, hG, h⟩ := h
  exact (does_any h.j kind i k hn).mono fun e w' ⟨h1, h2⟩ => ⟨h1, Tw.actj hG h h2⟩
theorem Tws.undo (h : Tws W G rj rk J K wo wc ws w) : Calls Try.prog 34 #[.pointer (some ⟨rj, 0, none⟩)] w fun e w' => e = .returned (.int .i64 J.undo.2) ∧ (Tws W G rj rk J.undo.1 K wo wc ws w' ∧ Kept G w w') := by
  obtain ⟨X, M1, F1, M2, F2, vs, hG, h⟩ := h
  exact (undo_any h.j).mono fun e w' ⟨h1, h2⟩ => ⟨h1, Tw.actj hG h h2⟩
theorem Tws.depth (h : Tws W G rj rk J K wo wc ws w) : Calls Try.prog 24 #[.pointer (some ⟨rj, 0, none⟩)] w fun e w' => e = .returned (.int .i64 J.L.length) ∧ w = w' := by
  obtain ⟨X, M1, F1, M2, F2, vs, hG, h⟩ := h; exact depth_any h.j
theorem Tws.cells (h : Tws W G rj rk J K wo wc ws w) : Calls Try.prog 26 #[.pointer (some ⟨rj, 0, none⟩)] w fun e w' => ∃ ao cap, e = .returned (.slice ao J.C.length cap) ∧ OwnW w' w.heap.size ao cap J.C ∧ Below w.heap.size w w' := by
  obtain ⟨X, M1, F1, M2, F2, vs, hG, h⟩ := h; exact cells_any h.j
theorem Tws.cells2 (h : Tws W G rj rk J K wo wc ws w) : Calls Try.prog 26 #[.pointer (some ⟨rk, 0, none⟩)] w fun e w' => ∃ ao cap, e = .returned (.slice ao K.C.length cap) ∧ OwnW w' w.heap.size ao cap K.C ∧ Below w.heap.size w w' := h.swap.cells
theorem Tws.does2 (h : Tws W G rj rk J K wo wc ws w) (kind i k : Int) {n : Int} (hn : W64 n) : Calls Try.prog 31 #[.pointer (some ⟨rk, 0, none⟩), .agg #[.int .i64 kind, .int .i64 i, .int .i64 k, .int .u64 n]] w fun e w' => e = .returned (.int .i64 (K.does kind i k n).2) ∧ (Tws W G rj rk J (K.does kind i k n).1 wo wc ws w' ∧ Kept G w w') :=
  (h.swap.does kind i k hn).mono fun e w' ⟨h1, h2, h3⟩ => ⟨h1, h2.swap, h3⟩
theorem Tws.touched (h : Tws W G rj rk J K wo wc ws w) : Calls Try.prog 32 #[.pointer (some ⟨rj, 0, none⟩)] w fun e w' => ∃ ao cap, e = .returned (.slice ao J.touched.length cap) ∧ OwnI w' w.heap.size ao cap J.touched ∧ Below w.heap.size w w' := by
  obtain ⟨X, M1, F1, M2, F2, vs, hG, h⟩ := h; exact touched_any h.j
theorem Tw.below (h : Tw W X M1 F1 M2 F2 rj rk J K wo wc vs ws w) (hb : Below w.heap.size w w') : Tw W X M1 F1 M2 F2 rj rk J K wo wc vs ws w' :=
  ⟨h.j.below hb, h.k.below hb, h.lo1, h.lo2, h.b.trans (hb.mono h.b.size), h.f12, fun b hx => by obtain ⟨x1, x2⟩ := h.x b hx; exact ⟨Nat.lt_of_lt_of_le x1 hb.size, x2⟩,
    h.row.kept fun g hg => hb.block g (h.r g (row_own hg h.row)).2.1, fun g hg => by obtain ⟨r1, r2, r3⟩ := h.r g hg; exact ⟨r1, Nat.lt_of_lt_of_le r2 hb.size, r3⟩, h.ls.kept fun b hx => hb.block b (h.x b hx).1⟩
theorem Tws.below (h : Tws W G rj rk J K wo wc ws w) (hb : Below w.heap.size w w') : Tws W G rj rk J K wo wc ws w' := by
  obtain ⟨X, M1, F1, M2, F2, vs, hG, h⟩ := h; exact ⟨X, M1, F1, M2, F2, vs, hG, h.below hb⟩
theorem Tws.base (h : Tws W G rj rk J K wo wc ws w) : Below W.heap.size W w := by obtain ⟨X, M1, F1, M2, F2, vs, hG, h⟩ := h; exact h.b
theorem Tws.ok (h : Tws W G rj rk J K wo wc ws w) : J.Ok := by obtain ⟨X, M1, F1, M2, F2, vs, hG, h⟩ := h; exact h.j.ok
/-- One list is read. -/
theorem Tws.at (h : Tws W G rj rk J K wo wc ws w) {i : Nat} {l : List Int} (hl : ws.reverse[i]? = some l) : ∃ g b o cap, wo = some ⟨g, 0, none⟩ ∧ w.cell? ⟨g, i, none⟩ = some (.slice (some ⟨b, o, none⟩) l.length cap) ∧ Rd w (some ⟨b, o, none⟩) l := by
  obtain ⟨X, M1, F1, M2, F2, vs, hG, h⟩ := h
  obtain ⟨b, o, cap, h1, h2, h3⟩ := h.ls.2 i l hl
  have hlt : i < ws.length := by have := (List.getElem?_eq_some_iff.1 hl).1; simpa using this
  rcases h.row.2 with ⟨_, e⟩ | ⟨g, c, cur, e, hg, _⟩
  · omega
  · simp only [Value.slice.injEq] at e
    obtain ⟨rfl, _⟩ := e
    refine ⟨g, b, o, cap, rfl, ?_, h3⟩
    have := h.row.cells (g := g) rfl i _ h1
    rw [add_lit, Nat.zero_add] at this
    exact this
/-- The last list is struck. -/
theorem LRow.cutAt {w : World} {e : TypeId} {v : Value} {n : Nat} {xs : List Value} {wo : Option Addr} {wc : Nat} (hv : v = .slice wo n wc) (h : LRow w e 1 v n xs) {k : Nat} (hk : k ≤ n) : LRow w e 1 (.slice wo k wc) k (xs.take k) := by
  subst hv
  refine ⟨by rw [List.length_take, h.1]; omega, ?_⟩
  rcases h.2 with ⟨e, h0⟩ | ⟨g, cap, cur, e, hg, h1, h2, h3, h4⟩
  · simp only [Value.slice.injEq] at e
    obtain ⟨rfl, _, rfl⟩ := e
    exact .inl ⟨by rw [show k = 0 from by omega], by omega⟩
  · simp only [Value.slice.injEq] at e
    obtain ⟨rfl, _, rfl⟩ := e
    refine .inr ⟨g, wc, cur, rfl, hg, by omega, h2, h3, ?_⟩
    rw [← h4, List.take_take]; congr 1; omega
theorem Tws.cut {l : List Int} (h : Tws W G rj rk J K wo wc (l :: ws) w) : Tws W G rj rk J K wo wc ws w := by
  obtain ⟨X, M1, F1, M2, F2, vs, hG, h⟩ := h
  refine ⟨X, M1, F1, M2, F2, vs.take ws.length, hG, h.j, h.k, h.lo1, h.lo2, h.b, h.f12, h.x, ?_, h.r, ?_⟩
  · exact LRow.cutAt rfl h.row (by simp)
  · have h1 := h.ls.1
    rw [List.length_reverse, List.length_cons] at h1
    refine ⟨by rw [List.length_take, h1, List.length_reverse]; omega, fun i m hm => ?_⟩
    have hi : i < ws.length := by have := (List.getElem?_eq_some_iff.1 hm).1; simpa using this
    obtain ⟨b, o, cap, g1, g2⟩ := h.ls.2 i m (by rw [List.reverse_cons, List.getElem?_append_left (by simpa using hi)]; exact hm)
    exact ⟨b, o, cap, by rw [List.getElem?_take_of_lt hi]; exact g1, g2⟩
/-- A list behind, in a block of its own. -/
theorem Tw.push {b o cap g wc' : Nat} {l : List Int} {w1 : World} (hG : ∀ k, G k → X k) (h : Tw W X M1 F1 M2 F2 rj rk J K wo wc vs ws w) (hx : w.heap.size ≤ b ∧ b < w1.heap.size) (hb1 : Below w.heap.size w w1) (hl : Rd w1 (some ⟨b, o, none⟩) l) (hN : w1.heap.size ≤ N)
    (hrow : LRow w' 43 1 (.slice (some ⟨g, 0, none⟩) (ws.length + 1) wc') (ws.length + 1) (vs ++ [.slice (some ⟨b, o, none⟩) l.length cap])) (hlt : g < w'.heap.size)
    (hw' : ∀ k, k < w1.heap.size → (∀ g, wo = some ⟨g, 0, none⟩ → k ≠ g) → w'.heap[k]? = w1.heap[k]?) (hsz : w1.heap.size ≤ w'.heap.size) (hbw : Below W.heap.size w1 w') (hg : wo = some ⟨g, 0, none⟩ ∨ g = N) :
    Tws W G rj rk J K (some ⟨g, 0, none⟩) wc' (l :: ws) w' ∧ Kept G w w' := by
  have f1l := h.j.fl'
  have f2l := h.k.fl'
  have hs := hb1.size
  have hW := h.b.size
  have old : ∀ k, k < w.heap.size → (∀ g, wo = some ⟨g, 0, none⟩ → k ≠ g) → w'.heap[k]? = w.heap[k]? := fun k hk hn => (hw' k (by omega) hn).trans (hb1.block k hk)
  have nr1 : ∀ k, F1 k → ∀ g, wo = some ⟨g, 0, none⟩ → k ≠ g := fun k hk g hg e => (h.r g hg).2.2.1 (e ▸ hk)
  have nr2 : ∀ k, F2 k → ∀ g, wo = some ⟨g, 0, none⟩ → k ≠ g := fun k hk g hg e => (h.r g hg).2.2.2 (e ▸ hk)
  have gF : W.heap.size ≤ g ∧ ¬ F1 g ∧ ¬ F2 g := by
    rcases hg with hg | rfl
    · obtain ⟨a, _, c, d⟩ := h.r g hg; exact ⟨a, c, d⟩
    · exact ⟨by omega, fun hf => by have := f1l _ hf; omega, fun hf => by have := f2l _ hf; omega⟩
  have xg : ∀ k, k < w1.heap.size → (∀ g, wo = some ⟨g, 0, none⟩ → k ≠ g) → k ≠ g := fun k hk hn => by
    rcases hg with hg | rfl
    · exact hn g hg
    · omega
  have bn : ∀ g, wo = some ⟨g, 0, none⟩ → b ≠ g := fun g hg => by have := (h.r g hg).2.1; omega
  refine ⟨⟨fun k => X k ∨ k = b, M1, F1, M2, F2, vs ++ [.slice (some ⟨b, o, none⟩) l.length cap], fun k hk => .inl (hG k hk), h.j.kept (by omega) fun k hk => old k (f1l k hk) (nr1 k hk), h.k.kept (by omega) fun k hk => old k (f2l k hk) (nr2 k hk), h.lo1, h.lo2,
    (h.b.trans (hb1.mono h.b.size)).trans hbw, h.f12, fun k hk => ?_, hrow, fun g' hg' => ?_, ?_⟩, by omega, fun k hk => old k (h.x k (hG k hk)).1 (h.x k (hG k hk)).2.2.2⟩
  · rcases hk with hk | rfl
    · obtain ⟨x1, x2, x3, x4⟩ := h.x k hk
      exact ⟨by omega, x2, x3, fun g' hg' => by simp only [Option.some.injEq, Addr.mk.injEq, and_true] at hg'; subst hg'; exact xg k (by omega) x4⟩
    · exact ⟨by omega, fun hf => by have := f1l _ hf; omega, fun hf => by have := f2l _ hf; omega, fun g' hg' => by simp only [Option.some.injEq, Addr.mk.injEq, and_true] at hg'; subst hg'; exact xg k hx.2 bn⟩
  · simp only [Option.some.injEq, Addr.mk.injEq, and_true] at hg'
    subst hg'
    exact ⟨gF.1, hlt, gF.2⟩
  · have h1 := h.ls.1
    rw [List.length_reverse] at h1
    refine ⟨by simp [h1], fun i m hm => ?_⟩
    rw [List.reverse_cons] at hm
    rcases Nat.lt_or_ge i ws.length with hi | hi
    · rw [List.getElem?_append_left (by simpa using hi)] at hm
      obtain ⟨b', o', c', g1, g2, g3⟩ := h.ls.2 i m hm
      obtain ⟨x1, x2, x3, x4⟩ := h.x b' g2
      exact ⟨b', o', c', by rw [List.getElem?_append_left (by omega)]; exact g1, .inl g2, g3.keptAt (old b' x1 x4)⟩
    · have hi' : i = ws.length := by have := (List.getElem?_eq_some_iff.1 hm).1; simp at this; omega
      subst hi'
      rw [List.getElem?_append_right (by simp)] at hm
      simp at hm
      subst hm
      exact ⟨b, o, cap, by rw [List.getElem?_append_right (by omega), h1]; simp, .inr rfl, hl.keptAt (hw' b hx.2 bn)⟩
/-- A block made since is a guest. -/
theorem Tws.guest {k : Nat} (h : Tws W G rj rk J K wo wc ws w) (hb : Below w.heap.size w w') (h1 : w.heap.size ≤ k) (h2 : k < w'.heap.size) : Tws W (fun b => b = k) rj rk J K wo wc ws w' := by
  obtain ⟨X, M1, F1, M2, F2, vs, hG, h⟩ := h
  have hh := h.below hb
  have f1l := h.j.fl'
  have f2l := h.k.fl'
  refine ⟨fun b => X b ∨ b = k, M1, F1, M2, F2, vs, fun b hb => .inr hb, hh.j, hh.k, hh.lo1, hh.lo2, hh.b, hh.f12, fun b hb' => ?_, hh.row, hh.r, hh.ls.1, fun i l hl => ?_⟩
  · rcases hb' with hb' | rfl
    · exact hh.x b hb'
    · exact ⟨h2, fun hf => by have := f1l _ hf; omega, fun hf => by have := f2l _ hf; omega, fun g hg e => by have := (h.r g hg).2.1; omega⟩
  · obtain ⟨b, o, cap, g1, g2, g3⟩ := hh.ls.2 i l hl
    exact ⟨b, o, cap, g1, .inl g2, g3⟩
theorem Tws.free (h : Tws W G rj rk J K wo wc ws w) : Tws W (fun _ => False) rj rk J K wo wc ws w := by
  obtain ⟨X, M1, F1, M2, F2, vs, hG, h⟩ := h
  exact ⟨X, M1, F1, M2, F2, vs, fun _ h => h.elim, h⟩
end
end Go.Proofs.Ytkpfnonacebmkaa
