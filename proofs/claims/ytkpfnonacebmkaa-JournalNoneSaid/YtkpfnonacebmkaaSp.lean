/- Words, lists of words, with no program in sight. -/
import Derived.Below
import Derived.Lib.Hide
namespace Go.Proofs.Ytkpfnonacebmkaa
open Go.RowKit

theorem getD_at {α : Type} {l : List α} {k : Nat} (hk : k < l.length) (d : α) : l.getD k d = l[k] := by
  rw [List.getD_eq_getElem?_getD, List.getElem?_eq_getElem hk]; rfl
/-- A word: a number of 64 bits. -/
def W64 (n : Int) : Prop := 0 ≤ n ∧ n < 18446744073709551616
/-- A list of words. -/
def Ws (l : List Int) : Prop := ∀ x ∈ l, W64 x
theorem Ws.nil : Ws [] := fun _ h => by simp at h
theorem Ws.cons {a : Int} {l : List Int} (ha : W64 a) (hl : Ws l) : Ws (a :: l) := fun x hx => by
  rcases List.mem_cons.1 hx with rfl | h
  · exact ha
  · exact hl _ h
theorem Ws.append {a b : List Int} (ha : Ws a) (hb : Ws b) : Ws (a ++ b) := fun x hx => by
  rcases List.mem_append.1 hx with h | h
  · exact ha _ h
  · exact hb _ h
theorem Ws.at {l : List Int} (h : Ws l) {k : Nat} (hk : k < l.length) : W64 (l.getD k 0) := by
  rw [getD_at hk]; exact h _ (List.getElem_mem hk)
theorem Ws.take {l : List Int} (h : Ws l) (k : Nat) : Ws (l.take k) := fun x hx => h x (List.mem_of_mem_take hx)
theorem Ws.sum_nonneg {l : List Int} (h : Ws l) : 0 ≤ l.sum := by
  induction l with
  | nil => simp
  | cons a l ih => simp; have := (h a (by simp)).1; have := ih (fun x hx => h x (by simp [hx])); omega
theorem sum_take_succ (l : List Int) (k : Nat) (hk : k < l.length) : (l.take (k + 1)).sum = (l.take k).sum + l.getD k 0 := by
  rw [List.take_succ_eq_append_getElem hk, List.sum_append, getD_at hk]; simp
theorem sum_take_le {l : List Int} (h : Ws l) (k : Nat) : (l.take k).sum ≤ l.sum := by
  have := Ws.sum_nonneg (l := l.drop k) (fun x hx => h x (List.mem_of_mem_drop hx))
  have e : l.sum = (l.take k).sum + (l.drop k).sum := by rw [← List.sum_append, List.take_append_drop]
  omega

/-- A slice's elements are these words: each cell is there. -/
def Rd (w : World) (ao : Option Addr) (l : List Int) : Prop :=
  ∀ k, k < l.length → ∃ b o, ao = some ⟨b, o, none⟩ ∧ w.cell? ⟨b, o + k, none⟩ = some (.int .u64 (l.getD k 0))
theorem Rd.nil (w : World) (ao : Option Addr) : Rd w ao [] := fun k h => by simp at h
theorem Rd.below {w w' : World} {ao : Option Addr} {l : List Int} (h : Rd w ao l) (hb : Below w.heap.size w w') : Rd w' ao l := fun k hk => by
  obtain ⟨b, o, h1, h2⟩ := h k hk
  exact ⟨b, o, h1, (hb.cell (p := ⟨b, o + k, none⟩) (World.block_lt_of_cell? w _ h2)).trans h2⟩
end Go.Proofs.Ytkpfnonacebmkaa
