/- The numbers of BankKnown. -/
import Derived.Test.YtjiffflhedekfaaKn0
namespace Go.Proofs.Ytjiffflhedekfaa
open Go.RowKit

/-- The chapter's bank. -/
def Bc : Bk := ⟨[70, 50], 30, 0, 0, 0⟩
def Bd : Bk := ⟨[70, 50], 20, 0, 10, 0⟩
theorem k64 (k : Nat) (h : k < 18446744073709551616) : W64 k := ⟨by omega, by omega⟩
theorem bc_wf : Bc.Wf := wf_any _ (ws_two (k64 70 (by omega)) (k64 50 (by omega))) (k64 30 (by omega)) zero64 zero64 zero64
theorem bd_wf : Bd.Wf := wf_any _ (ws_two (k64 70 (by omega)) (k64 50 (by omega))) (k64 20 (by omega)) zero64 (k64 10 (by omega)) zero64
theorem n_have0 : haveR Bc 0 = (70, 0) := by decide
theorem n_have2 : haveR Bc 2 = (0, 10) := by decide
theorem n_tot : (if Bc.chk = 0 then Bc.L.sum else 0) = 120 ∧ Bc.chk = 0 := by decide
theorem n_e1 : doesR Bc 0 0 1 71 = (B0, 13) := by decide
theorem n_e2 : doesR Bc 0 0 0 1 = (B0, 2) := by decide
theorem n_e3 : doesR Bc 0 0 1 0 = (B0, 2) := by decide
theorem n_e4 : doesR Bc 0 0 2 0 = (B0, 10) := by decide
theorem n_burn : movR Bc 0 2 10 = (Bd, 0) := by decide
theorem n_pay : payR Bc 0 1 0 = (Bc, 0) := by decide
theorem n_e5 : doesR Bd 1 2 0 1 = (B0, 2) := by decide
theorem n_e6 : doesR Bc 3 0 4 1 = (B0, 3) := by decide
theorem n_w1 : (newR []).2 = 3 := by decide
theorem n_w2 : (newR (List.replicate 65 0)).2 = 4 := by decide
theorem n_w3 : (newR [4611686018427387904, 1]).2 = 12 := by decide
theorem n_w4 : (newR [4611686018427387904]).2 = 0 := by decide
theorem n_w5 : (newR [18446744073709551615, 18446744073709551615]).2 = 12 := by decide
theorem n_bytes : bytesL Bc = [2, 70, 50, 30, 0, 0, 0] := by decide
theorem n_r1 : (readR [1, 0, 0, 0, 0]).2 = (6, 5) := by decide
theorem n_r2 : (readR [0]).2 = (3, 0) := by decide
theorem n_r3 : (readR [1, 0]).2 = (6, 2) := by decide
theorem f_eq1 (w : World) : (binOp .eql 49 (.agg #[.int .i64 6, .int .i64 5]) (.agg #[.int .i64 6, .int .i64 5])).run Try.prog w = .ok (.bool true) w := by kernel_rfl
theorem f_eq2 (w : World) : (binOp .eql 49 (.agg #[.int .i64 3, .int .i64 0]) (.agg #[.int .i64 3, .int .i64 0])).run Try.prog w = .ok (.bool true) w := by kernel_rfl
theorem f_eq3 (w : World) : (binOp .eql 49 (.agg #[.int .i64 6, .int .i64 2]) (.agg #[.int .i64 6, .int .i64 2])).run Try.prog w = .ok (.bool true) w := by kernel_rfl
def zeros65 : Array Value := Array.replicate 65 (.int .u64 0)
theorem mk65 (w : World) : (Instr.makeSlice 22 (.int .i64 65) (.int .i64 65)).run Try.prog w = .ok (.slice (some ⟨w.heap.size, 0, none⟩) 65 65) (w.alloc (.cells zeros65 23)) := by kernel_rfl
end Go.Proofs.Ytjiffflhedekfaa
