/- codec.Reader: how it lies in memory; none, Fail. -/
import Derived.Test.YtjiffflhedekfaaNum
import Derived.Test.YtjiffflhedekfaaNew
import Derived.Deep.RegionHeld3
namespace Go.Proofs.Ytjiffflhedekfaa
open Go.RowKit

theorem numF_ok (l : List Int) : ∀ (i : Nat) (n : Int), Bs l → i ≤ 9 → 0 ≤ n → n < 128 ^ i → (numF i n l).2.2 = 0 →
    (i : Int) < (numF i n l).2.1 ∧ (numF i n l).2.1 ≤ i + l.length ∧ 0 ≤ (numF i n l).1 ∧ (numF i n l).1 < 18446744073709551616 := by
  induction l with
  | nil => intro i n _ _ _ _ h; simp [numF] at h
  | cons x l ih =>
    intro i n hb hi hn0 hn1 h
    have hx := hb x (by simp)
    rw [numF] at h ⊢
    by_cases c1 : i = 9 ∧ 1 < x ∨ 0 < i ∧ x = 0
    · rw [if_pos c1] at h; simp at h
    rw [if_neg c1] at h ⊢
    have hst := @acc_step n x i hn0 hn1 hx.1 hx.2 hi (fun h9 => by omega)
    have hp := pow_le9 hi
    have hpos : (0 : Int) < 128 ^ i := Int.pow_pos (by omega)
    have hlt : n + x % 128 * 128 ^ i < 18446744073709551616 := by
      by_cases h9 : i = 9
      · have h1 : x % 128 * 128 ^ i ≤ 1 * 128 ^ i := Int.mul_le_mul_of_nonneg_right (by omega) (by omega)
        omega
      · have h1 := hst.2.2 (by omega)
        have h2 := pow_le9 (show i + 1 ≤ 9 by omega)
        omega
    by_cases c2 : x < 128
    · rw [if_pos c2] at h ⊢
      simp only [List.length_cons]
      exact ⟨by omega, by omega, hst.2.1, hlt⟩
    · rw [if_neg c2] at h ⊢
      have := ih (i + 1) _ (fun y hy => hb y (by simp [hy])) (by omega) hst.2.1 (hst.2.2 (by omega)) h
      simp only [List.length_cons]
      refine ⟨by omega, by omega, this.2.2⟩
theorem numR_ok {l : List Int} (hb : Bs l) (h : (numR l).2.2 = 0) : 0 < (numR l).2.1 ∧ (numR l).2.1 ≤ l.length ∧ 0 ≤ (numR l).1 ∧ (numR l).1 < 18446744073709551616 := by
  have := numF_ok l 0 0 hb (by omega) (by omega) (by simp) h
  exact ⟨by have := this.1; simp only [numR]; omega, by have := this.2.1; simp only [numR]; omega, this.2.2⟩

/-- A reader: its bytes, its place, its fault. -/
structure RS where
  L : List Int
  at_ : Nat
  ft : Option (Int × Int)
/-- It lies there. -/
structure Rdr (W : World) (base r : Nat) (S : RS) (ao : Option Addr) (c : Nat) (fp : Option Addr) : Prop where
  hr : W.heap[r]? = some (.cells #[.slice ao S.L.length c, .int .i64 S.at_, .bool true, .pointer fp] 101 (0, 0))
  own : OwnY W base ao c S.L
  ne : ∀ p, ao = some p → p.block ≠ r
  lo : base ≤ r
  fa : (S.ft = none ∧ fp = none) ∨ ∃ e a f, S.ft = some (e, a) ∧ fp = some ⟨f, 0, none⟩ ∧ W.heap[f]? = some (.cells #[.int .i64 e, .int .i64 a] 49 (0, 0)) ∧ base ≤ f ∧ f ≠ r ∧ e ≠ 0
  bs : Bs S.L
  le : S.at_ ≤ S.L.length
  len : S.L.length ≤ 140737488355328
theorem four {w : World} {b : Nat} {v0 v1 v2 v3 : Value} {t : TypeId} (h : w.heap[b]? = some (.cells #[v0, v1, v2, v3] t (0, 0))) :
    w.cell? ⟨b, 0, none⟩ = some v0 ∧ w.cell? ⟨b, 1, none⟩ = some v1 ∧ w.cell? ⟨b, 2, none⟩ = some v2 ∧ w.cell? ⟨b, 3, none⟩ = some v3 ∧
    w.frozen? ⟨b, 0, none⟩ = false ∧ w.frozen? ⟨b, 1, none⟩ = false ∧ w.frozen? ⟨b, 2, none⟩ = false ∧ w.frozen? ⟨b, 3, none⟩ = false := by
  simp [World.cell?, World.frozen?, h]
theorem two {w : World} {b : Nat} {v0 v1 : Value} {t : TypeId} (h : w.heap[b]? = some (.cells #[v0, v1] t (0, 0))) :
    w.cell? ⟨b, 0, none⟩ = some v0 ∧ w.cell? ⟨b, 1, none⟩ = some v1 ∧ w.frozen? ⟨b, 0, none⟩ = false ∧ w.frozen? ⟨b, 1, none⟩ = false := by
  simp [World.cell?, World.frozen?, h]
section
variable {W : World} {base r : Nat} {S : RS} {ao : Option Addr} {c : Nat} {fp : Option Addr}
theorem Rdr.lt (h : Rdr W base r S ao c fp) : r < W.heap.size := (Array.getElem?_eq_some_iff.1 h.hr).1
theorem Rdr.step (h : Rdr W base r S ao c fp) {W' : World} (hb : Below W.heap.size W W') : Rdr W' base r S ao c fp :=
  ⟨(hb.block _ h.lt).trans h.hr, h.own.below hb, h.ne, h.lo, h.fa.imp id fun ⟨e, a, f, h1, h2, h3, h4⟩ => ⟨e, a, f, h1, h2, (hb.block f (Array.getElem?_eq_some_iff.1 h3).1).trans h3, h4⟩, h.bs, h.le, h.len⟩
end

set_option maxHeartbeats 400000 in
theorem rnone_any {W : World} {base r : Nat} {S : RS} {ao : Option Addr} {c : Nat} {fp : Option Addr} (h : Rdr W base r S ao c fp) :
    Calls Try.prog 83 #[.pointer (some ⟨r, 0, none⟩)] W fun e w' => e = .returned (.bool false) ∧ W = w' := by
  obtain ⟨a0, a1, a2, a3, _⟩ := four h.hr
  clear h
  go_enter Try.func83, Try.ntmps83
  go_wp2
  go_ret
  exact ⟨rfl, rfl⟩

theorem heap4_set1 {w : World} {b : Nat} {v0 v1 v2 v3 : Value} {t : TypeId} (h : w.heap[b]? = some (.cells #[v0, v1, v2, v3] t (0, 0))) (x : Value) :
    (w.setCell ⟨b, 1, none⟩ x).heap[b]? = some (.cells #[v0, x, v2, v3] t (0, 0)) := by
  simp [World.setCell, Array.getElem?_modify, h]
theorem heap4_set3 {w : World} {b : Nat} {v0 v1 v2 v3 : Value} {t : TypeId} (h : w.heap[b]? = some (.cells #[v0, v1, v2, v3] t (0, 0))) (x : Value) :
    (w.setCell ⟨b, 3, none⟩ x).heap[b]? = some (.cells #[v0, v1, v2, x] t (0, 0)) := by
  simp [World.setCell, Array.getElem?_modify, h]
theorem OwnY.setCell {w : World} {base : Nat} {ao : Option Addr} {cap : Nat} {l : List Int} (h : OwnY w base ao cap l) {a : Addr} (ha : ∀ p, ao = some p → p.block ≠ a.block) (u : Value) : OwnY (w.setCell a u) base ao cap l :=
  ownsRow_setCell_other h (by cases ao with
    | none => simp [Value.ownBlock]
    | some p => have := ha p rfl; simpa [Value.ownBlock] using this) u
/-- A call that writes the reader alone. -/
theorem grown_set {W : World} {r k : Nat} (v : Value) : W.grownBy (W.setCell ⟨r, k, none⟩ v) (some r) :=
  ⟨rfl, rfl, rfl, by simp [World.setCell], fun j _ hj => Below.heap_setCell _ _ _ j (fun e => hj (by rw [e]))⟩
theorem grown_trans {a b c : World} {g : Option Nat} (h : a.grownBy b g) (k : b.grownBy c g) : a.grownBy c g :=
  ⟨k.os.trans h.os, k.tape.trans h.tape, k.output.trans h.output, Nat.le_trans h.size k.size, fun i hi hne => (k.block i (Nat.lt_of_lt_of_le hi h.size) hne).trans (h.block i hi hne)⟩
theorem grown_below {a b : World} (g : Option Nat) (h : Below a.heap.size a b) : a.grownBy b g := ⟨h.os, h.tape, h.output, h.size, fun k hk _ => h.block k hk⟩

set_option maxHeartbeats 400000 in
theorem rfail_any {W : World} {base r : Nat} {S : RS} {ao : Option Addr} {c : Nat} {fp : Option Addr} (h : Rdr W base r S ao c fp) (hf : S.ft = none) (e a : Int) (he : e ≠ 0) :
    Calls Try.prog 92 #[.pointer (some ⟨r, 0, none⟩), .int .i64 e, .int .i64 a] W fun en w' => en = .returned (.tuple #[]) ∧ (∃ fp', Rdr w' base r { S with ft := some (e, a) } ao c fp') ∧ W.grownBy w' (some r) := by
  have hfp : fp = none := by rcases h.fa with ⟨_, h2⟩ | ⟨_, _, _, h1, _⟩; exact h2; rw [hf] at h1; cases h1
  subst hfp
  have HN := Lib.hid (rnone_any h)
  have HH := Lib.hid h
  obtain ⟨a0, a1, a2, a3, f0, f1, f2, f3⟩ := four h.hr
  have hlt := h.lt
  have hq : (e == 0) = false := by rw [beq_eq_false_iff_ne]; exact he
  have hq' : (e != 0) = true := by simpa using he
  have HE := Lib.hid he
  clear h he hf
  go_enter Try.func92, Try.ntmps92
  go_wp2_with fail
  refine HN.out.mono ?_
  rintro en w' ⟨rfl, rfl⟩
  go_wp2_with fail
  go_end0
  have hsz : (W.setCell ⟨r, 3, none⟩ (.pointer (some ⟨W.heap.size, 0, none⟩))).heap.size = W.heap.size := by simp [World.setCell]
  have hlo := HH.out.lo
  refine ⟨rfl, ⟨some ⟨W.heap.size, 0, none⟩, (heap_old _ _ (by omega)).trans (heap4_set3 HH.out.hr _), (HH.out.own.setCell (a := ⟨r, 3, none⟩) HH.out.ne _).alloc _, HH.out.ne, hlo, .inr ⟨e, a, W.heap.size, rfl, rfl, heap_at _ _ hsz.symm, by omega, by omega, HE.out⟩, HH.out.bs, HH.out.le, HH.out.len⟩, ?_⟩
  exact grown_trans (grown_set _) (grown_below _ ((Below.refl _ _).alloc (Nat.le_refl _) _))
end Go.Proofs.Ytjiffflhedekfaa
