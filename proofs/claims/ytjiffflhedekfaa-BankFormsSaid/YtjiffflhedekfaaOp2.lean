/- How acts read, with the ranges of their numbers; an act by value. -/
import Derived.Test.YtjiffflhedekfaaOpn
import Derived.Test.YtjiffflhedekfaaNea
namespace Go.Proofs.Ytjiffflhedekfaa
open Go.RowKit Go.ChangeShapes Go.WideShapes Go.ChangeAt Go.Joins Go.Deep
/-- An act's numbers are of their kinds. -/
structure Ac.In (x : Ac) : Prop where
  what : I64 x.what
  from_ : I64 x.from_
  to_ : I64 x.to_
def AcsIn (l : List Ac) : Prop := ∀ x ∈ l, x.In
section
variable {H : Type} {enc : TypeId × Value → H} {w : World} {base fuel : Nat} {spare : Nat → Bool} {held : Bool} {cs : List Value} {x : DataW H × List MemPlace}
set_option maxRecDepth 100000 in
theorem open_acts2 (h : DataW.trod enc Try.prog w base spare held fuel 27 cs = some x) :
    ∃ (ao : Option Addr) (l : List Ac) (c : Nat), cs = [.slice ao l.length c] ∧ ActsAt w ao l ∧ AcsIn l ∧ l.length ≤ maxLen := by
  have hc41 : Try.prog.cellsOf 41 = 4 := by kernel_rfl
  have hc3 : Try.prog.cellsOf 3 = 1 := by kernel_rfl
  rcases open_slice Try.underlying27 h with ⟨rfl, _⟩ | ⟨a, len, cap, m, n, D, Pl, rfl, hb, hl, hm, hmm, _, hx⟩
  · exact ⟨none, [], 0, rfl, fun k x hk => by simp at hk, fun x hx => by simp at hx, by simp⟩
  · have hle : len ≤ m := by rw [hmm]; split <;> omega
    by_cases h0 : len = 0
    · subst h0
      exact ⟨some a, [], cap, rfl, fun k x hk => by simp at hk, fun x hx => by simp at hx, by simp⟩
    obtain ⟨b, off, rfl⟩ : ∃ b o, a = ⟨b, o, none⟩ := by
      obtain ⟨cs', h1, h2⟩ := hx 0 (by omega)
      rw [hc41] at h1
      obtain ⟨_, hlen, hcell⟩ := World.cells?_some h1
      obtain ⟨c0, c1, c2, c3, rfl⟩ := list4 hlen
      obtain ⟨b, o, e⟩ := spot_none (hcell 0 (by omega))
      refine ⟨b, o, ?_⟩
      rw [← e]
      simp [Addr.add]
    have one : ∀ i, i < len → ∃ y : Ac, y.In ∧ b < w.heap.size ∧ W64 y.amt ∧ w.cell? ⟨b, off + i * 4, none⟩ = some (.int .i64 y.what) ∧ w.cell? ⟨b, off + i * 4 + 1, none⟩ = some (.int .i64 y.from_) ∧
        w.cell? ⟨b, off + i * 4 + 2, none⟩ = some (.int .i64 y.to_) ∧ w.cell? ⟨b, off + i * 4 + 3, none⟩ = some (.int .u64 y.amt) := by
      intro i hi
      obtain ⟨cs', h1, h2⟩ := hx i (by omega)
      rw [hc41, add_lit] at h1
      obtain ⟨_, hlen, hcell⟩ := World.cells?_some h1
      obtain ⟨c0, c1, c2, c3, rfl⟩ := list4 hlen
      obtain ⟨y0, y1, y2, y3, n', _, _, g0, g1, g2, g3⟩ := trod_struct4 Try.underlying41 h2
      rw [hc3] at g0 g1 g2
      rw [Try.cells23] at g3
      simp only [List.drop_zero, List.take_succ_cons, List.take_zero, List.drop_succ_cons] at g0 g1 g2 g3
      obtain ⟨n0, e0, _, v0⟩ := DataW.trod_int Try.underlying3 g0
      obtain ⟨n1, e1, _, v1⟩ := DataW.trod_int Try.underlying3 g1
      obtain ⟨n2, e2, _, v2⟩ := DataW.trod_int Try.underlying3 g2
      obtain ⟨n3, e3, w3⟩ := u64_of g3
      simp only [List.cons.injEq, and_true] at e0 e1 e2 e3
      subst e0 e1 e2 e3
      have k0 := add_at (hcell 0 (by omega))
      exact ⟨⟨n0, n1, n2, n3⟩, ⟨bounds_i64 v0, bounds_i64 v1, bounds_i64 v2⟩, World.block_lt_of_cell? w _ k0, w3, k0, add_at (hcell 1 (by omega)), add_at (hcell 2 (by omega)), add_at (hcell 3 (by omega))⟩
    have pick : ∀ m, m ≤ len → ∃ l : List Ac, l.length = m ∧ ∀ i, i < m → ∀ y, l[i]? = some y → y.In ∧ b < w.heap.size ∧ W64 y.amt ∧ w.cell? ⟨b, off + i * 4, none⟩ = some (.int .i64 y.what) ∧ w.cell? ⟨b, off + i * 4 + 1, none⟩ = some (.int .i64 y.from_) ∧
        w.cell? ⟨b, off + i * 4 + 2, none⟩ = some (.int .i64 y.to_) ∧ w.cell? ⟨b, off + i * 4 + 3, none⟩ = some (.int .u64 y.amt) := by
      intro m
      induction m with
      | zero => exact fun _ => ⟨[], rfl, fun i hi => by omega⟩
      | succ m ih =>
        intro hm
        obtain ⟨l, h1, h2⟩ := ih (by omega)
        obtain ⟨y, hy⟩ := one m (by omega)
        refine ⟨l ++ [y], by simp [h1], fun i hi z hz => ?_⟩
        by_cases hlt : i < m
        · rw [List.getElem?_append_left (by omega)] at hz
          exact h2 i hlt z hz
        · obtain rfl : i = m := by omega
          rw [List.getElem?_append_right (by omega), h1] at hz
          simp at hz
          subst hz
          exact hy
    obtain ⟨l, h1, h2⟩ := pick len (Nat.le_refl _)
    subst h1
    exact ⟨_, l, cap, rfl, fun k y hk => ⟨b, off, rfl, (h2 k (List.getElem?_eq_some_iff.1 hk).1 y hk).2⟩, fun y hy => by
      obtain ⟨k, hk⟩ := List.getElem?_of_mem hy
      exact (h2 k (List.getElem?_eq_some_iff.1 hk).1 y hk).1, by omega⟩
set_option maxRecDepth 100000 in
theorem open_act {r : Reach} {b0 : Nat} {v : Value} {d : DataW H} {p : List MemPlace} (hv : Value.okWide Try.prog w r b0 41 v) (h : DataW.Trod enc Try.prog w base spare held 41 v d p) :
    ∃ y : Ac, v = .agg #[.int .i64 y.what, .int .i64 y.from_, .int .i64 y.to_, .int .u64 y.amt] ∧ y.In ∧ W64 y.amt := by
  obtain ⟨c0, c1, c2, c3, y0, y1, y2, y3, m, rfl, rfl, rfl, h0, h1, h2, h3⟩ := open_agg4 Try.underlying41 (by kernel_rfl) (by kernel_rfl) hv h
  obtain ⟨n0, e0, _, v0⟩ := DataW.trod_int Try.underlying3 h0
  obtain ⟨n1, e1, _, v1⟩ := DataW.trod_int Try.underlying3 h1
  obtain ⟨n2, e2, _, v2⟩ := DataW.trod_int Try.underlying3 h2
  obtain ⟨n3, e3, w3⟩ := u64_of h3
  simp only [List.cons.injEq, and_true] at e0 e1 e2 e3
  subst e0 e1 e2 e3
  exact ⟨⟨n0, n1, n2, n3⟩, rfl, ⟨bounds_i64 v0, bounds_i64 v1, bounds_i64 v2⟩, w3⟩
end
end Go.Proofs.Ytjiffflhedekfaa
