/- A journal as plain data: its cells, its changes (the newest first), its open levels (the topmost first). -/
import Derived.Test.YtkpfnonacebmkaaSp
namespace Go.Proofs.Ytkpfnonacebmkaa

structure JS where
  C : List Int
  U : List (Nat × Int)
  L : List (Nat × List Nat)
def JS.touch (L : List (Nat × List Nat)) (i : Nat) : List (Nat × List Nat) :=
  match L with
  | [] => []
  | (m, T) :: L' => (m, i :: T) :: L'
/-- 'put'. -/
def JS.put (J : JS) (i : Nat) (n : Int) : JS :=
  { C := J.C.set i n, U := if J.L = [] then J.U else (i, J.C.getD i 0) :: J.U, L := JS.touch J.L i }
/-- Does a number name a cell? -/
def inB (N : Nat) (i : Int) : Bool := decide (0 ≤ i) && decide (i < N)
/-- What 'may' tells. -/
def mayE (N : Nat) (l : List Int) : Int := if l.all (inB N) then 0 else 3
theorem inB_of {N : Nat} {i : Int} (h : inB N i = true) : 0 ≤ i ∧ i < N := by simpa [inB] using h
theorem inB_not {N : Nat} {i : Int} (h : ¬ inB N i = true) : i < 0 ∨ (N : Int) ≤ i := by
  simp only [inB, Bool.and_eq_true, decide_eq_true_eq] at h
  omega
theorem inB_mk {N : Nat} {i : Int} (h : 0 ≤ i) (h' : i < N) : inB N i = true := by simp [inB, h, h']
/-- Changes taken back, so many of the newest. -/
def unw : Nat → List (Nat × Int) → List Int → List Int
  | 0, _, C => C
  | _ + 1, [], C => C
  | k + 1, (i, o) :: U, C => unw k U (C.set i o)
/-- A journal that may be: 1 to 4096 cells, all words; so are the old amounts; each touched cell is there; a mark lies not above the changes, nor above the mark over it. -/
structure JS.Ok (J : JS) : Prop where
  pos : 0 < J.C.length
  most : J.C.length ≤ 4096
  ws : Ws J.C
  us : ∀ p ∈ J.U, p.1 < J.C.length ∧ W64 p.2
  ts : ∀ p ∈ J.L, ∀ i ∈ p.2, i < J.C.length
  ms : ∀ p ∈ J.L, p.1 ≤ J.U.length
  dp : J.L.length ≤ 64
  mo : J.L.Pairwise (fun p q => q.1 ≤ p.1)
theorem touch_length (L : List (Nat × List Nat)) (i : Nat) : (JS.touch L i).length = L.length := by
  unfold JS.touch; split <;> rfl
theorem mem_touch {L : List (Nat × List Nat)} {i : Nat} {p : Nat × List Nat} (h : p ∈ JS.touch L i) : ∃ q ∈ L, q.1 = p.1 ∧ ∀ x ∈ p.2, x = i ∨ x ∈ q.2 := by
  unfold JS.touch at h
  split at h
  · cases h
  · rename_i m T L'
    rcases List.mem_cons.1 h with rfl | h
    · exact ⟨_, List.mem_cons_self .., rfl, fun x hx => List.mem_cons.1 hx⟩
    · exact ⟨p, List.mem_cons_of_mem _ h, rfl, fun x hx => .inr hx⟩
theorem Ws.set {l : List Int} (h : Ws l) (i : Nat) {n : Int} (hn : W64 n) : Ws (l.set i n) := fun x hx => by
  rcases List.mem_or_eq_of_mem_set hx with h' | rfl
  · exact h x h'
  · exact hn
theorem JS.Ok.put {J : JS} (h : J.Ok) {i : Nat} (hi : i < J.C.length) {n : Int} (hn : W64 n) : (J.put i n).Ok where
  pos := by simpa [JS.put] using h.pos
  most := by simpa [JS.put] using h.most
  ws := h.ws.set i hn
  us := fun p hp => by
    simp only [JS.put, List.length_set] at hp ⊢
    split at hp
    · exact h.us p hp
    · rcases List.mem_cons.1 hp with rfl | hp
      · exact ⟨hi, h.ws.at hi⟩
      · exact h.us p hp
  ts := fun p hp x hx => by
    obtain ⟨q, hq, _, hs⟩ := mem_touch hp
    simp only [JS.put, List.length_set]
    rcases hs x hx with rfl | hx
    · exact hi
    · exact h.ts q hq x hx
  ms := fun p hp => by
    obtain ⟨q, hq, hm, _⟩ := mem_touch hp
    have := h.ms q hq
    simp only [JS.put]
    split
    · omega
    · simp only [List.length_cons]; omega
  dp := by simpa [JS.put, touch_length] using h.dp
  mo := by
    have := h.mo
    simp only [JS.put]
    cases hL : J.L with
    | nil => exact List.Pairwise.nil
    | cons p L' => rw [hL] at this; obtain ⟨m, T⟩ := p; exact List.Pairwise.cons (List.pairwise_cons.1 this).1 (List.pairwise_cons.1 this).2
end Go.Proofs.Ytkpfnonacebmkaa
