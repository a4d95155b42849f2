/- The contracts that BankKnown calls, at its numbers. -/
import Derived.Test.YtjiffflhedekfaaKn1
namespace Go.Proofs.Ytjiffflhedekfaa
open Go.RowKit

theorem c_have0 (ao : Option Addr) (c : Nat) (w : World) (h : Rd w ao [70, 50]) :
    Calls Try.prog 19 #[.agg #[.slice ao 2 c, .int .u64 30, .int .u64 0, .int .u64 0, .int .u64 0], .int .i64 0] w fun e w' => e = .returned (.tuple #[.int .u64 70, .int .i64 0]) ∧ Below w.heap.size w w' := by
  have := have_any ao Bc c 0 w h bc_wf (by decide)
  rw [n_have0] at this
  exact this
theorem c_have2 (ao : Option Addr) (c : Nat) (w : World) (h : Rd w ao [70, 50]) :
    Calls Try.prog 19 #[.agg #[.slice ao 2 c, .int .u64 30, .int .u64 0, .int .u64 0, .int .u64 0], .int .i64 2] w fun e w' => e = .returned (.tuple #[.int .u64 0, .int .i64 10]) ∧ Below w.heap.size w w' := by
  have := have_any ao Bc c 2 w h bc_wf (by decide)
  rw [n_have2] at this
  exact this
theorem c_total (ao : Option Addr) (c : Nat) (w : World) (h : Rd w ao [70, 50]) :
    Calls Try.prog 17 #[.agg #[.slice ao 2 c, .int .u64 30, .int .u64 0, .int .u64 0, .int .u64 0]] w fun e w' => e = .returned (.tuple #[.int .u64 120, .int .i64 0]) ∧ Below w.heap.size w w' := by
  have := total_any ao Bc c w h bc_wf (by decide)
  rw [n_tot.1, n_tot.2] at this
  exact this
theorem c_e1 (ao : Option Addr) (c : Nat) (w : World) (h : Rd w ao [70, 50]) :
    Calls Try.prog 33 #[.agg #[.slice ao 2 c, .int .u64 30, .int .u64 0, .int .u64 0, .int .u64 0], .agg #[.int .i64 0, .int .i64 0, .int .i64 1, .int .u64 71], .int .i64 13] w fun e w' => e = .returned (.bool true) ∧ Below w.heap.size w w' := by
  exact errs_yes ao Bc c 0 0 1 71 13 w h bc_wf (by decide) (k64 71 (by omega)) n_e1
theorem c_e2 (ao : Option Addr) (c : Nat) (w : World) (h : Rd w ao [70, 50]) :
    Calls Try.prog 33 #[.agg #[.slice ao 2 c, .int .u64 30, .int .u64 0, .int .u64 0, .int .u64 0], .agg #[.int .i64 0, .int .i64 0, .int .i64 0, .int .u64 1], .int .i64 2] w fun e w' => e = .returned (.bool true) ∧ Below w.heap.size w w' := by
  exact errs_yes ao Bc c 0 0 0 1 2 w h bc_wf (by decide) (k64 1 (by omega)) n_e2
theorem c_e3 (ao : Option Addr) (c : Nat) (w : World) (h : Rd w ao [70, 50]) :
    Calls Try.prog 33 #[.agg #[.slice ao 2 c, .int .u64 30, .int .u64 0, .int .u64 0, .int .u64 0], .agg #[.int .i64 0, .int .i64 0, .int .i64 1, .int .u64 0], .int .i64 2] w fun e w' => e = .returned (.bool true) ∧ Below w.heap.size w w' := by
  exact errs_yes ao Bc c 0 0 1 0 2 w h bc_wf (by decide) (k64 0 (by omega)) n_e3
theorem c_e4 (ao : Option Addr) (c : Nat) (w : World) (h : Rd w ao [70, 50]) :
    Calls Try.prog 33 #[.agg #[.slice ao 2 c, .int .u64 30, .int .u64 0, .int .u64 0, .int .u64 0], .agg #[.int .i64 0, .int .i64 0, .int .i64 2, .int .u64 0], .int .i64 10] w fun e w' => e = .returned (.bool true) ∧ Below w.heap.size w w' := by
  exact errs_yes ao Bc c 0 0 2 0 10 w h bc_wf (by decide) (k64 0 (by omega)) n_e4
theorem c_e5 (ao : Option Addr) (c : Nat) (w : World) (h : Rd w ao [70, 50]) :
    Calls Try.prog 33 #[.agg #[.slice ao 2 c, .int .u64 20, .int .u64 0, .int .u64 10, .int .u64 0], .agg #[.int .i64 1, .int .i64 2, .int .i64 0, .int .u64 1], .int .i64 2] w fun e w' => e = .returned (.bool true) ∧ Below w.heap.size w w' := by
  exact errs_yes ao Bd c 1 2 0 1 2 w h bd_wf (by decide) (k64 1 (by omega)) n_e5
theorem c_e6 (ao : Option Addr) (c : Nat) (w : World) (h : Rd w ao [70, 50]) :
    Calls Try.prog 33 #[.agg #[.slice ao 2 c, .int .u64 30, .int .u64 0, .int .u64 0, .int .u64 0], .agg #[.int .i64 3, .int .i64 0, .int .i64 4, .int .u64 1], .int .i64 3] w fun e w' => e = .returned (.bool true) ∧ Below w.heap.size w w' := by
  exact errs_yes ao Bc c 3 0 4 1 3 w h bc_wf (by decide) (k64 1 (by omega)) n_e6
theorem c_burn (ao : Option Addr) (c : Nat) (w : World) (h : Rd w ao [70, 50]) :
    Calls Try.prog 34 #[.agg #[.slice ao 2 c, .int .u64 30, .int .u64 0, .int .u64 0, .int .u64 0], .int .i64 0, .int .u64 10] w fun e w' => ∃ ao' c', e = .returned (.tuple #[.agg #[.slice ao' 2 c', .int .u64 20, .int .u64 0, .int .u64 10, .int .u64 0], .int .i64 0]) ∧ OwnW w' w.heap.size ao' c' [70, 50] ∧ Below w.heap.size w w' := by
  have := burn_any ao Bc c 0 10 w h bc_wf (by decide) (k64 10 (by omega))
  rw [n_burn] at this
  exact this
theorem c_pay (ao : Option Addr) (c : Nat) (w : World) (h : Rd w ao [70, 50]) :
    Calls Try.prog 35 #[.agg #[.slice ao 2 c, .int .u64 30, .int .u64 0, .int .u64 0, .int .u64 0], .int .i64 0, .int .i64 1, .int .u64 0] w fun e w' => ∃ ao' c', e = .returned (.tuple #[.agg #[.slice ao' 2 c', .int .u64 30, .int .u64 0, .int .u64 0, .int .u64 0], .int .i64 0]) ∧ OwnW w' w.heap.size ao' c' [70, 50] ∧ Below w.heap.size w w' := by
  have := pay_any ao Bc c 0 1 0 w h bc_wf (by decide) zero64
  rw [n_pay] at this
  exact this
theorem c_bytes (ao : Option Addr) (c : Nat) (w : World) (h : Rd w ao [70, 50]) :
    Calls Try.prog 26 #[.agg #[.slice ao 2 c, .int .u64 30, .int .u64 0, .int .u64 0, .int .u64 0]] w fun e w' => ∃ g cap, e = .returned (.tuple #[.slice (some ⟨g, 0, none⟩) 7 cap, .int .i64 0]) ∧ OwnY w' w.heap.size (some ⟨g, 0, none⟩) cap [2, 70, 50, 30, 0, 0, 0] ∧ Below w.heap.size w w' := by
  have := bytes_yes ao Bc c w h bc_wf n_tot.2
  rw [n_bytes] at this
  exact this
theorem c_same (ao bo : Option Addr) (c d : Nat) (w : World) (h : Rd w ao [70, 50]) (h' : Rd w bo [70, 50]) :
    Calls Try.prog 13 #[.agg #[.slice ao 2 c, .int .u64 30, .int .u64 0, .int .u64 0, .int .u64 0], .agg #[.slice bo 2 d, .int .u64 30, .int .u64 0, .int .u64 0, .int .u64 0]] w fun e w' => e = .returned (.bool true) ∧ Below w.heap.size w w' := by
  have := sameBank_any ao bo Bc Bc c d w h h' (by decide) (by decide)
  rw [show decide (Bc = Bc) = true by simp] at this
  exact this
theorem c_w1 (ao : Option Addr) (c : Nat) (w : World) (h : Rd w ao []) : Calls Try.prog 36 #[.slice ao 0 c] w fun e w' => e = .returned (.int .i64 3) ∧ Below w.heap.size w w' := by
  have := news_any ao [] c w h (Ws.nil) (by decide)
  rw [n_w1] at this
  exact this
theorem c_w2 (ao : Option Addr) (c : Nat) (w : World) (h : Rd w ao (List.replicate 65 0)) : Calls Try.prog 36 #[.slice ao 65 c] w fun e w' => e = .returned (.int .i64 4) ∧ Below w.heap.size w w' := by
  have := news_any ao (List.replicate 65 0) c w h (fun x hx => by rw [List.eq_of_mem_replicate hx]; exact zero64) (by decide)
  rw [n_w2] at this
  exact this
theorem c_w3 (ao : Option Addr) (c : Nat) (w : World) (h : Rd w ao [4611686018427387904, 1]) : Calls Try.prog 36 #[.slice ao 2 c] w fun e w' => e = .returned (.int .i64 12) ∧ Below w.heap.size w w' := by
  have := news_any ao [4611686018427387904, 1] c w h (ws_two (k64 4611686018427387904 (by omega)) (k64 1 (by omega))) (by decide)
  rw [n_w3] at this
  exact this
theorem c_w4 (ao : Option Addr) (c : Nat) (w : World) (h : Rd w ao [4611686018427387904]) : Calls Try.prog 36 #[.slice ao 1 c] w fun e w' => e = .returned (.int .i64 0) ∧ Below w.heap.size w w' := by
  have := news_any ao [4611686018427387904] c w h (Ws.cons (k64 4611686018427387904 (by omega)) Ws.nil) (by decide)
  rw [n_w4] at this
  exact this
theorem c_w5 (ao : Option Addr) (c : Nat) (w : World) (h : Rd w ao [18446744073709551615, 18446744073709551615]) : Calls Try.prog 36 #[.slice ao 2 c] w fun e w' => e = .returned (.int .i64 12) ∧ Below w.heap.size w w' := by
  have := news_any ao [18446744073709551615, 18446744073709551615] c w h (ws_two (k64 18446744073709551615 (by omega)) (k64 18446744073709551615 (by omega))) (by decide)
  rw [n_w5] at this
  exact this
theorem c_r1 (ao : Option Addr) (c : Nat) (w : World) (h : Rb w ao [1, 0, 0, 0, 0]) : Calls Try.prog 37 #[.slice ao 5 c] w fun e w' => e = .returned (.agg #[.int .i64 6, .int .i64 5]) ∧ Below w.heap.size w w' := by
  have := reads_any ao [1, 0, 0, 0, 0] c w h (fun x hx => by simp at hx; omega) (by decide)
  rw [n_r1] at this
  exact this
theorem c_r2 (ao : Option Addr) (c : Nat) (w : World) (h : Rb w ao [0]) : Calls Try.prog 37 #[.slice ao 1 c] w fun e w' => e = .returned (.agg #[.int .i64 3, .int .i64 0]) ∧ Below w.heap.size w w' := by
  have := reads_any ao [0] c w h (fun x hx => by simp at hx; omega) (by decide)
  rw [n_r2] at this
  exact this
theorem c_r3 (ao : Option Addr) (c : Nat) (w : World) (h : Rb w ao [1, 0]) : Calls Try.prog 37 #[.slice ao 2 c] w fun e w' => e = .returned (.agg #[.int .i64 6, .int .i64 2]) ∧ Below w.heap.size w w' := by
  have := reads_any ao [1, 0] c w h (fun x hx => by simp at hx; omega) (by decide)
  rw [n_r3] at this
  exact this
theorem c_sb (ao bo : Option Addr) (c d : Nat) (w : World) (h : Rb w ao [2, 70, 50, 30, 0, 0, 0]) (h' : Rb w bo [2, 70, 50, 30, 0, 0, 0]) :
    Calls Try.prog 28 #[.slice ao 7 c, .slice bo 7 d] w fun e w' => e = .returned (.bool true) ∧ w = w' := by
  have := sameBytes_any ao bo [2, 70, 50, 30, 0, 0, 0] [2, 70, 50, 30, 0, 0, 0] c d w h h' (fun x hx => by simp at hx; omega) (fun x hx => by simp at hx; omega)
  rw [show decide (([2, 70, 50, 30, 0, 0, 0] : List Int) = [2, 70, 50, 30, 0, 0, 0]) = true by simp] at this
  exact this
/-- A block that is known whole reads as its numbers. -/
theorem rd_block {w : World} {b : Nat} {l : List Int} {t : TypeId} {m : Nat × Nat} (h : w.heap[b]? = some (.cells (l.map (Value.int .u64)).toArray t m)) : Rd w (some ⟨b, 0, none⟩) l := fun k hk => by
  refine ⟨b, 0, rfl, ?_⟩
  simp [World.cell?, h, hk]
theorem rb_block {w : World} {b : Nat} {l : List Int} {t : TypeId} {m : Nat × Nat} (h : w.heap[b]? = some (.cells (l.map (Value.int .u8)).toArray t m)) : Rb w (some ⟨b, 0, none⟩) l := fun k hk => by
  refine ⟨b, 0, rfl, ?_⟩
  simp [World.cell?, h, hk]
theorem zeros65_eq : zeros65 = ((List.replicate 65 (0 : Int)).map (Value.int .u64)).toArray := by
  rfl
end Go.Proofs.Ytjiffflhedekfaa
