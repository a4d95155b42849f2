/- What a store at a place makes of a bank's sums; a bank in memory in the midst of a move. -/
import Derived.Test.YtjiffflhedekfaaMov
namespace Go.Proofs.Ytjiffflhedekfaa
open Go.RowKit

theorem sum_set (l : List Int) (k : Nat) (x : Int) (hk : k < l.length) : (l.set k x).sum = l.sum - l.getD k 0 + x := by
  induction l generalizing k with
  | nil => simp at hk
  | cons a l ih =>
    cases k with
    | zero => simp; omega
    | succ k =>
      have := ih k (by simpa using hk)
      simp at this ⊢
      omega
theorem mem_le_sum {l : List Int} (h : Ws l) {k : Nat} (hk : k < l.length) : l.getD k 0 ≤ l.sum := by
  induction l generalizing k with
  | nil => simp at hk
  | cons a l ih =>
    have hl : Ws l := fun x hx => h x (by simp [hx])
    have h0 := hl.sum_nonneg
    have ha := (h a (by simp)).1
    cases k with
    | zero => simp; omega
    | succ k => have := ih hl (k := k) (by simpa using hk); simp at this ⊢; omega
theorem Ws.set {l : List Int} (h : Ws l) (k : Nat) {x : Int} (hx : W64 x) : Ws (l.set k x) := fun y hy => by
  rcases List.mem_or_eq_of_mem_set hy with h1 | h1
  · exact h y h1
  · subst h1; exact hx

theorem Pl.cases {p : Pl} {B : Bk} (h : p.err B = 0) :
    (∃ k, k < 4 ∧ p.isPool = true ∧ p.i.toNat = k) ∨ (p.isPool = false ∧ p.i.toNat < B.L.length) := by
  cases hb : p.isPool with
  | true => obtain ⟨h0, h1⟩ := Pl.err_pool hb h; exact .inl ⟨_, by omega, rfl, rfl⟩
  | false => obtain ⟨h0, h1⟩ := Pl.err_acc hb h; exact .inr ⟨rfl, by omega⟩
theorem Pl.get_le {p : Pl} {B : Bk} (h : p.err B = 0) (hw : B.Wf) : 0 ≤ p.get B ∧ p.get B ≤ B.tot := by
  have hs := hw.L.sum_nonneg
  have h0 := hw.p0.1
  have h1 := hw.p1.1
  have h2 := hw.p2.1
  have h3 := hw.p3.1
  rcases Pl.cases h with ⟨k, hk, hb, hi⟩ | ⟨hb, hi⟩
  · simp only [Pl.get, hb, if_true, hi, Bk.tot, Bk.pool]
    match k, hk with
    | 0, _ => simp; omega
    | 1, _ => simp; omega
    | 2, _ => simp; omega
    | 3, _ => simp; omega
  · have := mem_le_sum hw.L hi
    have := (hw.L.at hi).1
    simp only [Pl.get, hb, Bk.tot, Bool.false_eq_true, if_false]
    omega
theorem Pl.tot_set {p : Pl} {B : Bk} (h : p.err B = 0) (x : Int) : (p.set B x).tot = B.tot - p.get B + x := by
  rcases Pl.cases h with ⟨k, hk, hb, hi⟩ | ⟨hb, hi⟩
  · simp only [Pl.get, Pl.set, hb, if_true, hi, Bk.tot, Bk.pool]
    match k, hk with
    | 0, _ => simp [Bk.setPool]; omega
    | 1, _ => simp [Bk.setPool]; omega
    | 2, _ => simp [Bk.setPool]; omega
    | 3, _ => simp [Bk.setPool]; omega
  · have := sum_set B.L p.i.toNat x hi
    simp only [Pl.get, Pl.set, hb, Bk.tot, Bool.false_eq_true, if_false]
    omega
theorem Pl.wf_set {p : Pl} {B : Bk} (hw : B.Wf) {x : Int} (hx : W64 x) : (p.set B x).Wf := by
  obtain ⟨hL, h0, h1, h2, h3⟩ := hw
  unfold Pl.set
  split
  · unfold Bk.setPool
    split <;> constructor <;> assumption
  · exact ⟨hL.set _ hx, h0, h1, h2, h3⟩

theorem OwnW.some {w : World} {base : Nat} {ao : Option Addr} {cap : Nat} {l : List Int} (h : OwnW w base ao cap l) (hl : l.length ≠ 0) : ∃ g, ao = some ⟨g, 0, none⟩ ∧ base ≤ g ∧ g < w.heap.size := by
  rcases h.2 with ⟨_, h0⟩ | ⟨g, cap', cur, h1, h2, h3, _⟩
  · exact absurd h0 hl
  · simp only [Value.slice.injEq, true_and] at h1
    exact ⟨g, h1.1, h2, lt_of_block h3⟩

/-- A bank in the midst of a move: the variable, its accounts, the error; what was there before stands. -/
structure Sit (w W : World) (g cap : Nat) (B : Bk) (er : Int) : Prop where
  mem : Mem W w.heap.size (w.heap.size + 1) g cap B
  err : W.heap[w.heap.size + 1 + 1]? = some (.cells #[.int .i64 er] 30 (0, 0))
  bel : Below w.heap.size w W
  low : w.heap.size + 3 ≤ g
theorem Sit.setErr {w W : World} {g cap : Nat} {B : Bk} {er : Int} (h : Sit w W g cap B er) (e : Int) : Sit w (W.setCell ⟨w.heap.size + 1 + 1, 0, none⟩ (.int .i64 e)) g cap B e :=
  ⟨⟨(Below.heap_setCell _ _ _ _ (by simp)).trans h.mem.out, h.mem.own.setCell (fun p hp => by cases hp; have := h.low; simp; omega) _, h.mem.ne⟩, one_setCell h.err, h.bel.setCell (by simp; omega) _, h.low⟩
theorem Sit.set {w W : World} {g cap : Nat} {B : Bk} {er : Int} (h : Sit w W g cap B er) (p : Pl) (hp : p.err B = 0) (x : Int) : Sit w (W.setCell (p.addr (w.heap.size + 1) g) (.int .u64 x)) g cap (p.set B x) er := by
  have hl := h.low
  have hb : (p.addr (w.heap.size + 1) g).block ≠ w.heap.size + 1 + 1 ∧ w.heap.size ≤ (p.addr (w.heap.size + 1) g).block := by
    rcases Pl.addr_block p (w.heap.size + 1) g with e | e <;> rw [e] <;> omega
  exact ⟨h.mem.set p hp x, (Below.heap_setCell _ _ _ _ (Ne.symm hb.1)).trans h.err, h.bel.setCell hb.2 _, h.low⟩
theorem in_yes' (p : Pl) {w W : World} {g cap : Nat} {B : Bk} {er : Int} (h : Sit w W g cap B er) (hp : p.err B = 0) (nB : B.L.length ≤ 9223372036854775807) :
    Calls Try.prog p.fn #[.int .i64 p.i, .pointer (some ⟨w.heap.size + 1, 0, none⟩)] W fun e w' => e = .returned (.tuple #[.pointer (some (p.addr (w.heap.size + 1) g)), .int .i64 0]) ∧ Sit w w' g cap B er :=
  (in_yes p h.mem hp nB).mono fun e w' hh => ⟨hh.1, hh.2 ▸ h⟩
theorem in_no' (p : Pl) {w W : World} {g cap : Nat} {B : Bk} {er : Int} (h : Sit w W g cap B er) (hp : p.err B ≠ 0) (nB : B.L.length ≤ 9223372036854775807) :
    Calls Try.prog p.fn #[.int .i64 p.i, .pointer (some ⟨w.heap.size + 1, 0, none⟩)] W fun e w' => e = .returned (.tuple #[.pointer none, .int .i64 (p.err B)]) ∧ Sit w w' g cap B er :=
  (in_no p h.mem hp nB).mono fun e w' hh => ⟨hh.1, hh.2 ▸ h⟩
end Go.Proofs.Ytjiffflhedekfaa
