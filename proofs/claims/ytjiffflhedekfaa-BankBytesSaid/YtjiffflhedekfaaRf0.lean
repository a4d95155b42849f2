/- Lemmas for the moves of the reference: a bank's variable through calls that make memory; a bank in the midst of a move. -/
import Derived.Test.YtjiffflhedekfaaMv4
import Derived.Test.YtjiffflhedekfaaReg
import Derived.Deep.QuietTactic
import Derived.StillTailTactics
namespace Go.Proofs.Ytjiffflhedekfaa
open Go.RowKit

/-- A bank's variable b, the result's variable behind it; below nothing has turned. -/
def BoxC (w0 w1 : World) (b : Nat) (v0 v1 v2 v3 v4 : Value) : Prop :=
  w0.heap[b]? = some (.cells #[v0, v1, v2, v3, v4] 26 (0, 0)) ∧ b + 2 ≤ w0.heap.size ∧ Below (b + 2) w0 w1
theorem BoxC.step {w0 w1 w2 : World} {b : Nat} {v0 v1 v2 v3 v4 : Value} (h : BoxC w0 w1 b v0 v1 v2 v3 v4) (hb : Below w1.heap.size w1 w2) : BoxC w0 w2 b v0 v1 v2 v3 v4 :=
  ⟨h.1, h.2.1, h.2.2.trans (hb.mono (Nat.le_trans h.2.1 h.2.2.size))⟩
theorem BoxC.heap {w0 w1 : World} {b : Nat} {v0 v1 v2 v3 v4 : Value} (h : BoxC w0 w1 b v0 v1 v2 v3 v4) : w1.heap[b]? = some (.cells #[v0, v1, v2, v3, v4] 26 (0, 0)) :=
  (h.2.2.block b (by omega)).trans h.1
theorem BoxC.init (w : World) (v0 v1 v2 v3 v4 : Value) (o : Obj) : BoxC ((w.alloc (.cells #[v0, v1, v2, v3, v4] 26)).alloc o) ((w.alloc (.cells #[v0, v1, v2, v3, v4] 26)).alloc o) w.heap.size v0 v1 v2 v3 v4 :=
  ⟨(heap_old (w.alloc _) o (by simp)).trans (heap_at w _ rfl), by simp, Below.refl _ _⟩
theorem BoxC.drew {w0 w1 : World} {b : Nat} {v0 v1 v2 v3 v4 : Value} (h : BoxC w0 w1 b v0 v1 v2 v3 v4) : BoxC w0 w1.drew b v0 v1 v2 v3 v4 := ⟨h.1, h.2.1, h.2.2.drew⟩
theorem BoxC.alloc {w0 w1 : World} {b : Nat} {v0 v1 v2 v3 v4 : Value} (h : BoxC w0 w1 b v0 v1 v2 v3 v4) (o : Obj) : BoxC w0 (w1.alloc o) b v0 v1 v2 v3 v4 := h.step ((Below.refl _ _).alloc (Nat.le_refl _) o)
theorem with_box {w0 W : World} {b f : Nat} {args : Array Value} {v0 v1 v2 v3 v4 : Value} {R : Ending → Prop} (h : Calls Try.prog f args W fun e w' => R e ∧ Below W.heap.size W w') (hx : BoxC w0 W b v0 v1 v2 v3 v4) :
    Calls Try.prog f args W fun e w' => R e ∧ BoxC w0 w' b v0 v1 v2 v3 v4 := h.mono fun _ _ ⟨h1, h2⟩ => ⟨h1, hx.step h2⟩
theorem with_same {w0 W : World} {b f : Nat} {args : Array Value} {v0 v1 v2 v3 v4 : Value} {R : Ending → Prop} (h : Calls Try.prog f args W fun e w' => R e ∧ W = w') (hx : BoxC w0 W b v0 v1 v2 v3 v4) :
    Calls Try.prog f args W fun e w' => R e ∧ BoxC w0 w' b v0 v1 v2 v3 v4 := h.mono fun _ _ ⟨h1, h2⟩ => ⟨h1, h2 ▸ hx⟩
theorem BoxC.rd {w W : World} {o1 o2 : Obj} {v0 v1 v2 v3 v4 : Value} {ao : Option Addr} {l : List Int} (h : BoxC ((w.alloc o1).alloc o2) W w.heap.size v0 v1 v2 v3 v4) (hr : Rd w ao l) : Rd W ao l :=
  ((hr.alloc o1).alloc o2).below (h.2.2.mono (by simp))
theorem BoxC.low {w W : World} {o1 o2 : Obj} {v0 v1 v2 v3 v4 : Value} (h : BoxC ((w.alloc o1).alloc o2) W w.heap.size v0 v1 v2 v3 v4) : Below w.heap.size w W :=
  (((Below.refl _ _).alloc (Nat.le_refl _) _).alloc (by simp) _).trans (h.2.2.mono (by omega))
theorem BoxC.res {w W : World} {o1 o2 : Obj} {v0 v1 v2 v3 v4 : Value} (h : BoxC ((w.alloc o1).alloc o2) W w.heap.size v0 v1 v2 v3 v4) : W.heap[w.heap.size + 1]? = some o2 :=
  (h.2.2.block _ (by omega)).trans (heap_at _ _ (by simp))
theorem BoxC.size {w W : World} {o1 o2 : Obj} {v0 v1 v2 v3 v4 : Value} (h : BoxC ((w.alloc o1).alloc o2) W w.heap.size v0 v1 v2 v3 v4) : w.heap.size + 2 ≤ W.heap.size := by
  have := h.2.2.size; simpa using this
theorem cells4 {w : World} {g : Nat} {a b c d : Int} {t : TypeId} (h : w.heap[g]? = some (.cells #[.int .i64 a, .int .i64 b, .int .i64 c, .int .i64 d] t (0, 0))) :
    ∀ k, k < [a, b, c, d].length → w.cell? ⟨g, k, none⟩ = some (.int .i64 ([a, b, c, d].getD k 0)) := fun k hk => by
  match k, hk with
  | 0, _ => simp [World.cell?, h]
  | 1, _ => simp [World.cell?, h]
  | 2, _ => simp [World.cell?, h]
  | 3, _ => simp [World.cell?, h]
theorem cells3 {w : World} {g : Nat} {a b c : Int} {t : TypeId} (h : w.heap[g]? = some (.cells #[.int .i64 a, .int .i64 b, .int .i64 c] t (0, 0))) :
    ∀ k, k < [a, b, c].length → w.cell? ⟨g, k, none⟩ = some (.int .i64 ([a, b, c].getD k 0)) := fun k hk => by
  match k, hk with
  | 0, _ => simp [World.cell?, h]
  | 1, _ => simp [World.cell?, h]
  | 2, _ => simp [World.cell?, h]

theorem firstE_cons (a : Int) (l : List Int) : firstE (a :: l) = if a ≠ 0 then a else firstE l := rfl
theorem firstE_nil : firstE [] = 0 := rfl
/-- A move by its first error. -/
theorem moveR_err {B : Bk} {f t : Pl} {n : Int} {bar : Bool} (h : firstE [B.chk, f.err B, t.err B, argE bar] ≠ 0) : moveR B f t n bar = (B0, firstE [B.chk, f.err B, t.err B, argE bar]) := by
  revert h
  simp only [firstE_cons, firstE_nil]
  unfold moveR
  by_cases h1 : B.chk = 0
  · by_cases h2 : f.err B = 0
    · by_cases h3 : t.err B = 0
      · cases bar <;> simp [h1, h2, h3, argE]
      · simp [h1, h2, h3]
    · simp [h1, h2]
  · simp [h1]
theorem moveR_ok {B : Bk} {f t : Pl} {n : Int} {bar : Bool} (h : firstE [B.chk, f.err B, t.err B, argE bar] = 0) : B.chk = 0 ∧ f.err B = 0 ∧ t.err B = 0 ∧
    moveR B f t n bar = if f.get B < n then (B0, 13) else (t.set (f.set B (f.get B - n)) (t.get (f.set B (f.get B - n)) + n), 0) := by
  revert h
  simp only [firstE_cons, firstE_nil]
  unfold moveR
  by_cases h1 : B.chk = 0
  · by_cases h2 : f.err B = 0
    · by_cases h3 : t.err B = 0
      · cases bar <;> simp [h1, h2, h3, argE]
      · simp [h1, h2, h3]
    · simp [h1, h2]
  · simp [h1]
theorem first_bar (a b c : Int) : firstE [a, b, c, argE true] ≠ 0 := by
  simp only [firstE_cons, firstE_nil, argE]
  by_cases h1 : a = 0
  · by_cases h2 : b = 0
    · by_cases h3 : c = 0
      · simp [h1, h2, h3]
      · simp [h1, h2, h3]
    · simp [h1, h2]
  · simp [h1]
theorem first3 (a b c : Int) : firstE [a, b, c] = firstE [a, b, c, argE false] := by simp [firstE_cons, firstE_nil, argE]

/-- A bank in the midst of a reference's move: the variable, its accounts; the result's variable. -/
structure Sit2 (w W : World) (g cap : Nat) (B : Bk) : Prop where
  mem : Mem W w.heap.size w.heap.size g cap B
  res : W.heap[w.heap.size + 1]? = some (.cells #[.slice none 0 0, .int .u64 0, .int .u64 0, .int .u64 0, .int .u64 0] 26 (0, 0))
  bel : Below w.heap.size w W
  low : w.heap.size + 2 ≤ g
theorem Sit2.set {w W : World} {g cap : Nat} {B : Bk} (h : Sit2 w W g cap B) (p : Pl) (hp : p.err B = 0) (x : Int) : Sit2 w (W.setCell (p.addr w.heap.size g) (.int .u64 x)) g cap (p.set B x) := by
  have hl := h.low
  have hb : (p.addr w.heap.size g).block ≠ w.heap.size + 1 ∧ w.heap.size ≤ (p.addr w.heap.size g).block := by
    rcases Pl.addr_block p w.heap.size g with e | e <;> rw [e] <;> omega
  exact ⟨h.mem.set p hp x, (Below.heap_setCell _ _ _ _ (Ne.symm hb.1)).trans h.res, h.bel.setCell hb.2 _, h.low⟩
theorem Sit2.drew {w W : World} {g cap : Nat} {B : Bk} (h : Sit2 w W g cap B) : Sit2 w W.drew g cap B := ⟨⟨h.mem.out, h.mem.own, h.mem.ne⟩, h.res, h.bel.drew, h.low⟩
theorem addr_acc (k ob g : Nat) : (⟨false, (k : Int)⟩ : Pl).addr ob g = ⟨g, k, none⟩ := by simp [Pl.addr]
theorem addr_pool (k ob g : Nat) : (⟨true, (k : Int)⟩ : Pl).addr ob g = ⟨ob, 1 + k, none⟩ := by simp [Pl.addr]

def OkR (B : Bk) (f t : Pl) (n : Int) (R : Bk × Int) : Prop := B.chk = 0 ∧ f.err B = 0 ∧ t.err B = 0 ∧
    R = if f.get B < n then (B0, 13) else (t.set (f.set B (f.get B - n)) (t.get (f.set B (f.get B - n)) + n), 0)
theorem takeR_err {B : Bk} {f t n : Int} (h : firstE [B.chk, thereE B.L.length f, poolE t, argE false] ≠ 0) : takeR B f t n = (B0, firstE [B.chk, thereE B.L.length f, poolE t, argE false]) := moveR_err (f := ⟨false, f⟩) (t := ⟨true, t⟩) h
theorem takeR_ok {B : Bk} {f t n : Int} (h : firstE [B.chk, thereE B.L.length f, poolE t, argE false] = 0) : OkR B ⟨false, f⟩ ⟨true, t⟩ n (takeR B f t n) := moveR_ok (B := B) (f := ⟨false, f⟩) (t := ⟨true, t⟩) (n := n) (bar := false) h
theorem payR_err {B : Bk} {f t n : Int} (h : firstE [B.chk, poolE f, thereE B.L.length t, argE (f == 2)] ≠ 0) : payR B f t n = (B0, firstE [B.chk, poolE f, thereE B.L.length t, argE (f == 2)]) := moveR_err (f := ⟨true, f⟩) (t := ⟨false, t⟩) h
theorem payR_ok {B : Bk} {f t n : Int} (h : firstE [B.chk, poolE f, thereE B.L.length t, argE (f == 2)] = 0) : OkR B ⟨true, f⟩ ⟨false, t⟩ n (payR B f t n) := moveR_ok (B := B) (f := ⟨true, f⟩) (t := ⟨false, t⟩) (n := n) (bar := f == 2) h
theorem sendR_err {B : Bk} {f t n : Int} (h : firstE [B.chk, thereE B.L.length f, thereE B.L.length t, argE (f == t || n == 0)] ≠ 0) : sendR B f t n = (B0, firstE [B.chk, thereE B.L.length f, thereE B.L.length t, argE (f == t || n == 0)]) := moveR_err (f := ⟨false, f⟩) (t := ⟨false, t⟩) h
theorem sendR_ok {B : Bk} {f t n : Int} (h : firstE [B.chk, thereE B.L.length f, thereE B.L.length t, argE (f == t || n == 0)] = 0) : OkR B ⟨false, f⟩ ⟨false, t⟩ n (sendR B f t n) := moveR_ok (B := B) (f := ⟨false, f⟩) (t := ⟨false, t⟩) (n := n) (bar := f == t || n == 0) h
theorem movR_err {B : Bk} {f t n : Int} (h : firstE [B.chk, poolE f, poolE t, argE (f == t || f == 2)] ≠ 0) : movR B f t n = (B0, firstE [B.chk, poolE f, poolE t, argE (f == t || f == 2)]) := moveR_err (f := ⟨true, f⟩) (t := ⟨true, t⟩) h
theorem movR_ok {B : Bk} {f t n : Int} (h : firstE [B.chk, poolE f, poolE t, argE (f == t || f == 2)] = 0) : OkR B ⟨true, f⟩ ⟨true, t⟩ n (movR B f t n) := moveR_ok (B := B) (f := ⟨true, f⟩) (t := ⟨true, t⟩) (n := n) (bar := f == t || f == 2) h
end Go.Proofs.Ytjiffflhedekfaa
