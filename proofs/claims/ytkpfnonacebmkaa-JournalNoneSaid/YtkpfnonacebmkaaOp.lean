/- How the arguments of the statements read: words, acts; Pick. -/
import Derived.Test.YtkpfnonacebmkaaJr
import Derived.ProofKit
import Derived.OpenShut
import Derived.Lib.SmallJoins
import Derived.Deep.Slices
namespace Go.Proofs.Ytkpfnonacebmkaa
open Go.RowKit Go.ChangeShapes Go.WideShapes Go.ChangeAt Go.Joins Go.Deep

/-- An act. -/
structure Ac where
  what : Int
  from_ : Int
  to_ : Int
  amt : Int
/-- The acts lie there, as cells. -/
def ActsAt (w : World) (la : Option Addr) (l : List Ac) : Prop :=
  ∀ k, ∀ x, l[k]? = some x → ∃ lb lo, la = some ⟨lb, lo, none⟩ ∧ lb < w.heap.size ∧ W64 x.amt ∧ w.cell? ⟨lb, lo + k * 4, none⟩ = some (.int .i64 x.what) ∧
    w.cell? ⟨lb, lo + k * 4 + 1, none⟩ = some (.int .i64 x.from_) ∧ w.cell? ⟨lb, lo + k * 4 + 2, none⟩ = some (.int .i64 x.to_) ∧ w.cell? ⟨lb, lo + k * 4 + 3, none⟩ = some (.int .u64 x.amt)
theorem ActsAt.below {w w' : World} {la : Option Addr} {l : List Ac} (h : ActsAt w la l) (hb : Below w.heap.size w w') : ActsAt w' la l := fun k x hk => by
  obtain ⟨lb, lo, e, h1, h2, h3, h4, h5, h6⟩ := h k x hk
  exact ⟨lb, lo, e, Nat.lt_of_lt_of_le h1 hb.size, h2, (hb.cell (p := ⟨lb, _, none⟩) h1).trans h3, (hb.cell (p := ⟨lb, _, none⟩) h1).trans h4, (hb.cell (p := ⟨lb, _, none⟩) h1).trans h5, (hb.cell (p := ⟨lb, _, none⟩) h1).trans h6⟩
def I64 (x : Int) : Prop := -9223372036854775808 ≤ x ∧ x ≤ 9223372036854775807
/-- An act's numbers are of their kinds. -/
structure Ac.In (x : Ac) : Prop where
  what : I64 x.what
  from_ : I64 x.from_
  to_ : I64 x.to_
def AcsIn (l : List Ac) : Prop := ∀ x ∈ l, x.In
theorem w64_lit {n : Int} (h : (Lit.int .u64 n).wf = true) : W64 n := by
  have := bounds_u64 h
  exact ⟨this.1, by omega⟩

theorem add_at {w : World} {b o : Nat} {j : Nat} {v : Value} (h : w.cell? ((⟨b, o, none⟩ : Addr).add j) = some v) : w.cell? ⟨b, o + j, none⟩ = some v := by rwa [add_lit] at h
theorem spot_none {w : World} {a : Addr} {v : Value} (h : w.cell? (a.add 0) = some v) : ∃ b o, a = ⟨b, o, none⟩ := by
  obtain ⟨b, o, sp⟩ := a
  have hs : sp = none := by simpa [Addr.add] using World.cell?_spot h
  subst hs
  exact ⟨b, o, rfl⟩
theorem list4 {α : Type} {l : List α} (h : l.length = 4) : ∃ c0 c1 c2 c3, l = [c0, c1, c2, c3] := by
  match l, h with
  | [c0, c1, c2, c3], _ => exact ⟨c0, c1, c2, c3, rfl⟩

theorem Try.cells33 : Try.prog.cellsOf 33 = 1 := by kernel_rfl
section
variable {H : Type} {enc : TypeId × Value → H} {w : World} {base fuel : Nat} {spare : Nat → Bool} {held : Bool} {cs : List Value} {x : DataW H × List MemPlace}
theorem open_words (h : DataW.trod enc Try.prog w base spare held fuel 43 cs = some x) :
    ∃ (ao : Option Addr) (l : List Int) (c : Nat), cs = [.slice ao l.length c] ∧ Rd w ao l ∧ Ws l ∧ l.length ≤ maxLen ∧ (∀ q, ao = some q → l.length ≠ 0 → q.block < w.heap.size) := by
  rcases open_ints Try.underlying43 Try.underlying33 (by kernel_rfl) h with ⟨rfl, _⟩ | ⟨a, len, cap, zs, rfl, _, hl, hm, hz, _, hcell, hwz⟩
  · exact ⟨none, [], 0, rfl, Rd.nil _ _, Ws.nil, by simp, fun q hq => by cases hq⟩
  · have hlen : (zs.take len).length = len := by
      rw [List.length_take, hz]; split <;> omega
    have hle : len ≤ zs.length := by rw [hz]; split <;> omega
    refine ⟨some a, zs.take len, cap, by rw [hlen], ?_, fun n hn => w64_lit (hwz n (List.mem_of_mem_take hn)), by omega, ?_⟩
    · intro k hk
      have hc := hcell k (by omega)
      obtain ⟨b, off, rfl⟩ := spot_none (hcell 0 (by omega))
      refine ⟨b, off, rfl, ?_⟩
      rw [hlen] at hk
      have e : (zs.take len).getD k 0 = zs.getD k 0 := by
        rw [List.getD_eq_getElem?_getD, List.getElem?_take_of_lt hk, ← List.getD_eq_getElem?_getD]
      rw [e]
      exact add_at hc
    · intro q hq hn
      obtain rfl := Option.some.inj hq
      rw [hlen] at hn
      have hc := hcell 0 (by omega)
      have := World.block_lt_of_cell? w _ hc
      simpa [Addr.add] using this

theorem u64_of (h : DataW.trod enc Try.prog w base spare held fuel 33 cs = some x) : ∃ n : Int, cs = [.int .u64 n] ∧ W64 n := by
  obtain ⟨n, h1, _, h2⟩ := DataW.trod_int Try.underlying33 h
  exact ⟨n, h1, w64_lit h2⟩

set_option maxRecDepth 100000 in
theorem open_acts2 (h : DataW.trod enc Try.prog w base spare held fuel 47 cs = some x) :
    ∃ (ao : Option Addr) (l : List Ac) (c : Nat), cs = [.slice ao l.length c] ∧ ActsAt w ao l ∧ AcsIn l ∧ l.length ≤ maxLen := by
  have hc50 : Try.prog.cellsOf 50 = 4 := by kernel_rfl
  have hc3 : Try.prog.cellsOf 3 = 1 := by kernel_rfl
  rcases open_slice Try.underlying47 h with ⟨rfl, _⟩ | ⟨a, len, cap, m, n, D, Pl, rfl, hb, hl, hm, hmm, _, hx⟩
  · exact ⟨none, [], 0, rfl, fun k x hk => by simp at hk, fun x hx => by simp at hx, by simp⟩
  · have hle : len ≤ m := by rw [hmm]; split <;> omega
    by_cases h0 : len = 0
    · subst h0
      exact ⟨some a, [], cap, rfl, fun k x hk => by simp at hk, fun x hx => by simp at hx, by simp⟩
    obtain ⟨b, off, rfl⟩ : ∃ b o, a = ⟨b, o, none⟩ := by
      obtain ⟨cs', h1, h2⟩ := hx 0 (by omega)
      rw [hc50] at h1
      obtain ⟨_, hlen, hcell⟩ := World.cells?_some h1
      obtain ⟨c0, c1, c2, c3, rfl⟩ := list4 hlen
      obtain ⟨b, o, e⟩ := spot_none (hcell 0 (by omega))
      refine ⟨b, o, ?_⟩
      rw [← e]
      simp [Addr.add]
    have one : ∀ i, i < len → ∃ y : Ac, y.In ∧ b < w.heap.size ∧ W64 y.amt ∧ w.cell? ⟨b, off + i * 4, none⟩ = some (.int .i64 y.what) ∧ w.cell? ⟨b, off + i * 4 + 1, none⟩ = some (.int .i64 y.from_) ∧
        w.cell? ⟨b, off + i * 4 + 2, none⟩ = some (.int .i64 y.to_) ∧ w.cell? ⟨b, off + i * 4 + 3, none⟩ = some (.int .u64 y.amt) := by
      intro i hi
      obtain ⟨cs', h1, h2⟩ := hx i (by omega)
      rw [hc50, add_lit] at h1
      obtain ⟨_, hlen, hcell⟩ := World.cells?_some h1
      obtain ⟨c0, c1, c2, c3, rfl⟩ := list4 hlen
      obtain ⟨y0, y1, y2, y3, n', _, _, g0, g1, g2, g3⟩ := trod_struct4 Try.underlying50 h2
      rw [hc3] at g0 g1 g2
      rw [Try.cells33] at g3
      simp only [List.drop_zero, List.take_succ_cons, List.take_zero, List.drop_succ_cons] at g0 g1 g2 g3
      obtain ⟨n0, e0, _, v0⟩ := DataW.trod_int Try.underlying3 g0
      obtain ⟨n1, e1, _, v1⟩ := DataW.trod_int Try.underlying3 g1
      obtain ⟨n2, e2, _, v2⟩ := DataW.trod_int Try.underlying3 g2
      obtain ⟨n3, e3, w3⟩ := u64_of g3
      simp only [List.cons.injEq, and_true] at e0 e1 e2 e3
      subst e0 e1 e2 e3
      have k0 := add_at (hcell 0 (by omega))
      exact ⟨⟨n0, n1, n2, n3⟩, ⟨bounds_i64 v0, bounds_i64 v1, bounds_i64 v2⟩, World.block_lt_of_cell? w _ k0, w3, k0, add_at (hcell 1 (by omega)), add_at (hcell 2 (by omega)), add_at (hcell 3 (by omega))⟩
    have pick : ∀ m, m ≤ len → ∃ l : List Ac, l.length = m ∧ ∀ i, i < m → ∀ y, l[i]? = some y → y.In ∧ b < w.heap.size ∧ W64 y.amt ∧ w.cell? ⟨b, off + i * 4, none⟩ = some (.int .i64 y.what) ∧ w.cell? ⟨b, off + i * 4 + 1, none⟩ = some (.int .i64 y.from_) ∧
        w.cell? ⟨b, off + i * 4 + 2, none⟩ = some (.int .i64 y.to_) ∧ w.cell? ⟨b, off + i * 4 + 3, none⟩ = some (.int .u64 y.amt) := by
      intro m
      induction m with
      | zero => exact fun _ => ⟨[], rfl, fun i hi => by omega⟩
      | succ m ih =>
        intro hm
        obtain ⟨l, h1, h2⟩ := ih (by omega)
        obtain ⟨y, hy⟩ := one m (by omega)
        refine ⟨l ++ [y], by simp [h1], fun i hi z hz => ?_⟩
        by_cases hlt : i < m
        · rw [List.getElem?_append_left (by omega)] at hz
          exact h2 i hlt z hz
        · obtain rfl : i = m := by omega
          rw [List.getElem?_append_right (by omega), h1] at hz
          simp at hz
          subst hz
          exact hy
    obtain ⟨l, h1, h2⟩ := pick len (Nat.le_refl _)
    subst h1
    exact ⟨_, l, cap, rfl, fun k y hk => ⟨b, off, rfl, (h2 k (List.getElem?_eq_some_iff.1 hk).1 y hk).2⟩, fun y hy => by
      obtain ⟨k, hk⟩ := List.getElem?_of_mem hy
      exact (h2 k (List.getElem?_eq_some_iff.1 hk).1 y hk).1, by omega⟩
set_option maxRecDepth 100000 in
theorem open_act {r : Reach} {b0 : Nat} {v : Value} {d : DataW H} {p : List MemPlace} (hv : Value.okWide Try.prog w r b0 50 v) (h : DataW.Trod enc Try.prog w base spare held 50 v d p) :
    ∃ y : Ac, v = .agg #[.int .i64 y.what, .int .i64 y.from_, .int .i64 y.to_, .int .u64 y.amt] ∧ y.In ∧ W64 y.amt := by
  obtain ⟨c0, c1, c2, c3, y0, y1, y2, y3, m, rfl, rfl, rfl, h0, h1, h2, h3⟩ := open_agg4 Try.underlying50 (by kernel_rfl) (by kernel_rfl) hv h
  obtain ⟨n0, e0, _, v0⟩ := DataW.trod_int Try.underlying3 h0
  obtain ⟨n1, e1, _, v1⟩ := DataW.trod_int Try.underlying3 h1
  obtain ⟨n2, e2, _, v2⟩ := DataW.trod_int Try.underlying3 h2
  obtain ⟨n3, e3, w3⟩ := u64_of h3
  simp only [List.cons.injEq, and_true] at e0 e1 e2 e3
  subst e0 e1 e2 e3
  exact ⟨⟨n0, n1, n2, n3⟩, rfl, ⟨bounds_i64 v0, bounds_i64 v1, bounds_i64 v2⟩, w3⟩
end
set_option maxHeartbeats 1000000 in
/-- distraintkit.Pick. -/
theorem pick_any (x : Int) (n : Nat) (w : World) (hx : -9223372036854775808 ≤ x ∧ x ≤ 9223372036854775807) (hn : 0 < n) (hn2 : n ≤ 1000000) :
    Calls Try.prog 12 #[.int .i64 x, .int .i64 n] w fun e w' => e = .returned (.int .i64 (x % n)) ∧ w = w' := by
  obtain ⟨hx0, hx1⟩ := hx
  have hn0 : ¬ n = 0 := by omega
  by_cases h0 : 0 ≤ x
  · have hm : 0 ≤ x % (n : Int) := Int.emod_nonneg _ (by omega)
    go_enter Try.func12, Try.ntmps12
    go_wp2
    go_ret
    exact ⟨rfl, rfl⟩
  · have h1 : -(n : Int) < x.tmod n := by
      have := Int.lt_tmod_of_pos x (show (0 : Int) < n by omega)
      omega
    have h2 : x.tmod n ≤ 0 := by
      have := Int.tmod_nonneg (a := -x) (n : Int) (by omega)
      rw [Int.neg_tmod] at this
      omega
    have h3 : x % n = if x.tmod n = 0 then 0 else x.tmod n + n := by
      rw [Int.emod_eq_tmod]
      split
      · rename_i h
        rcases h with h | h
        · omega
        · have := Int.tmod_eq_zero_of_dvd h
          simp [this]
      · rename_i h
        have : ¬ x.tmod n = 0 := fun e => h (.inr (Int.dvd_of_tmod_eq_zero e))
        rw [if_neg this]; simp
    have H3 := Lib.hid h3
    clear h3
    by_cases ht : x.tmod n < 0
    · go_enter Try.func12, Try.ntmps12
      go_wp2
      go_ret
      rw [H3.out, if_neg (by omega)]
      exact ⟨rfl, rfl⟩
    · go_enter Try.func12, Try.ntmps12
      go_wp2
      go_ret
      rw [H3.out, if_pos (by omega)]
      have : x.tmod n = 0 := by omega
      exact ⟨by simp [this], rfl⟩
theorem pick_at (x m : Int) (w : World) (hx : I64 x) (h0 : 0 < m) (h1 : m ≤ 1000000) :
    Calls Try.prog 12 #[.int .i64 x, .int .i64 m] w fun e w' => e = .returned (.int .i64 (x % m)) ∧ w = w' := by
  obtain ⟨n, rfl⟩ : ∃ n : Nat, m = n := ⟨m.toNat, by omega⟩
  exact pick_any x n w hx (by omega) (by omega)
end Go.Proofs.Ytkpfnonacebmkaa
