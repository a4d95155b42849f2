/- How the arguments of the statements read: words, banks, acts. -/
import Derived.Test.YtjiffflhedekfaaBk
import Derived.Test.YtjiffflhedekfaaChk
import Derived.Test.YtjiffflhedekfaaBm3
import Derived.ProofKit
import Derived.OpenShut
import Derived.Lib.SmallJoins
import Derived.Deep.Slices
namespace Go.Proofs.Ytjiffflhedekfaa
open Go.RowKit Go.ChangeShapes Go.WideShapes Go.ChangeAt Go.Joins Go.Deep

theorem w64_of {n : Int} (h : (Lit.int .u64 n).wf = true) : W64 n := by
  have := bounds_u64 h
  exact ⟨this.1, by omega⟩

theorem add_at {w : World} {b o : Nat} {j : Nat} {v : Value} (h : w.cell? ((⟨b, o, none⟩ : Addr).add j) = some v) : w.cell? ⟨b, o + j, none⟩ = some v := by rwa [add_lit] at h
theorem spot_none {w : World} {a : Addr} {v : Value} (h : w.cell? (a.add 0) = some v) : ∃ b o, a = ⟨b, o, none⟩ := by
  obtain ⟨b, o, sp⟩ := a
  have hs : sp = none := by simpa [Addr.add] using World.cell?_spot h
  subst hs
  exact ⟨b, o, rfl⟩
theorem list5 {α : Type} {cs : Array α} (h : cs.size = 5) : ∃ c0 c1 c2 c3 c4, cs = #[c0, c1, c2, c3, c4] := by
  obtain ⟨l⟩ := cs
  match l, h with
  | [c0, c1, c2, c3, c4], _ => exact ⟨c0, c1, c2, c3, c4, rfl⟩
theorem list4 {α : Type} {l : List α} (h : l.length = 4) : ∃ c0 c1 c2 c3, l = [c0, c1, c2, c3] := by
  match l, h with
  | [c0, c1, c2, c3], _ => exact ⟨c0, c1, c2, c3, rfl⟩

section
variable {H : Type} {enc : TypeId × Value → H} {w : World} {base fuel : Nat} {spare : Nat → Bool} {held : Bool} {cs : List Value} {x : DataW H × List MemPlace}
theorem open_words (h : DataW.trod enc Try.prog w base spare held fuel 22 cs = some x) :
    ∃ (ao : Option Addr) (l : List Int) (c : Nat), cs = [.slice ao l.length c] ∧ Rd w ao l ∧ Ws l ∧ l.length ≤ maxLen ∧ (∀ q, ao = some q → l.length ≠ 0 → q.block < w.heap.size) := by
  rcases open_ints Try.underlying22 Try.underlying23 (by kernel_rfl) h with ⟨rfl, _⟩ | ⟨a, len, cap, zs, rfl, _, hl, hm, hz, _, hcell, hwz⟩
  · exact ⟨none, [], 0, rfl, Rd.nil _ _, Ws.nil, by simp, fun q hq => by cases hq⟩
  · have hlen : (zs.take len).length = len := by
      rw [List.length_take, hz]; split <;> omega
    have hle : len ≤ zs.length := by rw [hz]; split <;> omega
    refine ⟨some a, zs.take len, cap, by rw [hlen], ?_, fun n hn => w64_of (hwz n (List.mem_of_mem_take hn)), by omega, ?_⟩
    · intro k hk
      have hc := hcell k (by omega)
      obtain ⟨b, off, rfl⟩ := spot_none (hcell 0 (by omega))
      refine ⟨b, off, rfl, ?_⟩
      rw [hlen] at hk
      have e : (zs.take len).getD k 0 = zs.getD k 0 := by
        rw [List.getD_eq_getElem?_getD, List.getElem?_take_of_lt hk, ← List.getD_eq_getElem?_getD]
      rw [e]
      exact add_at hc
    · intro q hq hn
      obtain rfl := Option.some.inj hq
      rw [hlen] at hn
      have hc := hcell 0 (by omega)
      have := World.block_lt_of_cell? w _ hc
      simpa [Addr.add] using this

theorem u64_of (h : DataW.trod enc Try.prog w base spare held fuel 23 cs = some x) : ∃ n : Int, cs = [.int .u64 n] ∧ W64 n := by
  obtain ⟨n, h1, _, h2⟩ := DataW.trod_int Try.underlying23 h
  exact ⟨n, h1, w64_of h2⟩

set_option maxRecDepth 100000 in
theorem open_bank {r : Reach} {b0 : Nat} {v : Value} {d : DataW H} {ps : List MemPlace} (hv : Value.okWide Try.prog w r b0 26 v) (h : DataW.Trod enc Try.prog w base spare held 26 v d ps) :
    ∃ (ao : Option Addr) (B : Bk) (c : Nat), v = bval ao B c ∧ Rd w ao B.L ∧ B.Wf ∧ B.L.length ≤ maxLen ∧ (∀ q, ao = some q → B.L.length ≠ 0 → q.block < w.heap.size) := by
  have hc26 : Try.prog.cellsOf 26 = 5 := by kernel_rfl
  have hc22 : Try.prog.cellsOf 22 = 1 := by kernel_rfl
  have hc24 : Try.prog.cellsOf 24 = 4 := by kernel_rfl
  obtain ⟨cs, rfl, hsz⟩ := okWide_struct Try.underlying26 hv
  rw [hc26] at hsz
  obtain ⟨c0, c1, c2, c3, c4, rfl⟩ := list5 hsz
  obtain ⟨f, hf⟩ := h
  obtain ⟨y0, y1, n, _, _, h0, h1⟩ := trod_struct2 Try.underlying26 hf
  rw [hc22] at h0
  rw [hc24] at h1
  simp only [Value.cells, List.drop_zero, List.take_succ_cons, List.take_zero, List.drop_succ_cons] at h0 h1
  obtain ⟨ao, L, c, hL, hr, hw, hm, hlt⟩ := open_words h0
  simp only [List.cons.injEq, and_true] at hL
  subst hL
  obtain ⟨xs, m, _, _, _, hlen, hx⟩ := DataW.trod_array Try.underlying24 h1
  obtain ⟨z0, z1, z2, z3, rfl⟩ := list4 hlen
  have g0 := hx 0 (by omega)
  have g1 := hx 1 (by omega)
  have g2 := hx 2 (by omega)
  have g3 := hx 3 (by omega)
  rw [Try.cells23] at g0 g1 g2 g3
  simp only [List.drop_zero, List.take_succ_cons, List.take_zero, List.drop_succ_cons, List.getElem?_cons_zero, List.getElem?_cons_succ, Nat.zero_mul, Nat.one_mul, Nat.mul_one] at g0 g1 g2 g3
  obtain ⟨p0, e0, w0⟩ := u64_of g0
  obtain ⟨p1, e1, w1⟩ := u64_of g1
  obtain ⟨p2, e2, w2⟩ := u64_of g2
  obtain ⟨p3, e3, w3⟩ := u64_of g3
  simp only [List.cons.injEq, and_true] at e0 e1 e2 e3
  subst e0 e1 e2 e3
  exact ⟨ao, ⟨L, p0, p1, p2, p3⟩, c, rfl, hr, ⟨hw, w0, w1, w2, w3⟩, hm, hlt⟩

set_option maxRecDepth 100000 in
theorem open_acts (h : DataW.trod enc Try.prog w base spare held fuel 27 cs = some x) :
    ∃ (ao : Option Addr) (l : List Ac) (c : Nat), cs = [.slice ao l.length c] ∧ ActsAt w ao l ∧ l.length ≤ maxLen := by
  have hc41 : Try.prog.cellsOf 41 = 4 := by kernel_rfl
  have hc3 : Try.prog.cellsOf 3 = 1 := by kernel_rfl
  rcases open_slice Try.underlying27 h with ⟨rfl, _⟩ | ⟨a, len, cap, m, n, D, Pl, rfl, hb, hl, hm, hmm, _, hx⟩
  · exact ⟨none, [], 0, rfl, fun k x hk => by simp at hk, by simp⟩
  · have hle : len ≤ m := by rw [hmm]; split <;> omega
    by_cases h0 : len = 0
    · subst h0
      exact ⟨some a, [], cap, rfl, fun k x hk => by simp at hk, by simp⟩
    obtain ⟨b, off, rfl⟩ : ∃ b o, a = ⟨b, o, none⟩ := by
      obtain ⟨cs', h1, h2⟩ := hx 0 (by omega)
      rw [hc41] at h1
      obtain ⟨_, hlen, hcell⟩ := World.cells?_some h1
      obtain ⟨c0, c1, c2, c3, rfl⟩ := list4 hlen
      obtain ⟨b, o, e⟩ := spot_none (hcell 0 (by omega))
      refine ⟨b, o, ?_⟩
      rw [← e]
      simp [Addr.add]
    have one : ∀ i, i < len → ∃ y : Ac, b < w.heap.size ∧ W64 y.amt ∧ w.cell? ⟨b, off + i * 4, none⟩ = some (.int .i64 y.what) ∧ w.cell? ⟨b, off + i * 4 + 1, none⟩ = some (.int .i64 y.from_) ∧
        w.cell? ⟨b, off + i * 4 + 2, none⟩ = some (.int .i64 y.to_) ∧ w.cell? ⟨b, off + i * 4 + 3, none⟩ = some (.int .u64 y.amt) := by
      intro i hi
      obtain ⟨cs', h1, h2⟩ := hx i (by omega)
      rw [hc41, add_lit] at h1
      obtain ⟨_, hlen, hcell⟩ := World.cells?_some h1
      obtain ⟨c0, c1, c2, c3, rfl⟩ := list4 hlen
      obtain ⟨y0, y1, y2, y3, n', _, _, g0, g1, g2, g3⟩ := trod_struct4 Try.underlying41 h2
      rw [hc3] at g0 g1 g2
      rw [Try.cells23] at g3
      simp only [List.drop_zero, List.take_succ_cons, List.take_zero, List.drop_succ_cons] at g0 g1 g2 g3
      obtain ⟨n0, e0, _, _⟩ := DataW.trod_int Try.underlying3 g0
      obtain ⟨n1, e1, _, _⟩ := DataW.trod_int Try.underlying3 g1
      obtain ⟨n2, e2, _, _⟩ := DataW.trod_int Try.underlying3 g2
      obtain ⟨n3, e3, w3⟩ := u64_of g3
      simp only [List.cons.injEq, and_true] at e0 e1 e2 e3
      subst e0 e1 e2 e3
      have k0 := add_at (hcell 0 (by omega))
      exact ⟨⟨n0, n1, n2, n3⟩, World.block_lt_of_cell? w _ k0, w3, k0, add_at (hcell 1 (by omega)), add_at (hcell 2 (by omega)), add_at (hcell 3 (by omega))⟩
    have pick : ∀ m, m ≤ len → ∃ l : List Ac, l.length = m ∧ ∀ i, i < m → ∀ y, l[i]? = some y → b < w.heap.size ∧ W64 y.amt ∧ w.cell? ⟨b, off + i * 4, none⟩ = some (.int .i64 y.what) ∧ w.cell? ⟨b, off + i * 4 + 1, none⟩ = some (.int .i64 y.from_) ∧
        w.cell? ⟨b, off + i * 4 + 2, none⟩ = some (.int .i64 y.to_) ∧ w.cell? ⟨b, off + i * 4 + 3, none⟩ = some (.int .u64 y.amt) := by
      intro m
      induction m with
      | zero => exact fun _ => ⟨[], rfl, fun i hi => by omega⟩
      | succ m ih =>
        intro hm
        obtain ⟨l, h1, h2⟩ := ih (by omega)
        obtain ⟨y, hy⟩ := one m (by omega)
        refine ⟨l ++ [y], by simp [h1], fun i hi z hz => ?_⟩
        by_cases hlt : i < m
        · rw [List.getElem?_append_left (by omega)] at hz
          exact h2 i hlt z hz
        · obtain rfl : i = m := by omega
          rw [List.getElem?_append_right (by omega), h1] at hz
          simp at hz
          subst hz
          exact hy
    obtain ⟨l, h1, h2⟩ := pick len (Nat.le_refl _)
    subst h1
    exact ⟨_, l, cap, rfl, fun k y hk => ⟨b, off, rfl, h2 k (List.getElem?_eq_some_iff.1 hk).1 y hk⟩, by omega⟩
end
end Go.Proofs.Ytjiffflhedekfaa
