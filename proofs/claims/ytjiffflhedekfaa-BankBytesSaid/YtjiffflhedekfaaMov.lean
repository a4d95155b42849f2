/- The walk of bank.moves. -/
import Derived.Test.YtjiffflhedekfaaPl
namespace Go.Proofs.Ytjiffflhedekfaa
open Go.RowKit

set_option maxHeartbeats 800000 in
/-- The deferred closure, no error. -/
theorem fin_ok (eb ob : Nat) (u : FrameMode) (w : World) (he : w.heap[eb]? = some (.cells #[.int .i64 0] 30 (0, 0))) :
    CallsD Try.prog 86 #[.pointer (some ⟨eb, 0, none⟩), .pointer (some ⟨ob, 0, none⟩)] u w fun e u' w' => u' = u ∧ (e = .returned (.tuple #[]) ∧ w = w') := by
  have hec := cell_of_one he
  clear he
  go_enter_d Try.func86, Try.ntmps86
  go_wp2
  go_end0
  exact ⟨rfl, rfl⟩
set_option maxHeartbeats 800000 in
/-- The deferred closure, an error. -/
theorem fin_err (eb ob : Nat) (er : Int) (v0 v1 v2 v3 v4 : Value) (u : FrameMode) (w : World) (he : w.heap[eb]? = some (.cells #[.int .i64 er] 30 (0, 0))) (hn : er ≠ 0) (ho : w.heap[ob]? = some (.cells #[v0, v1, v2, v3, v4] 26 (0, 0))) :
    CallsD Try.prog 86 #[.pointer (some ⟨eb, 0, none⟩), .pointer (some ⟨ob, 0, none⟩)] u w fun e u' w' => u' = u ∧ (e = .returned (.tuple #[]) ∧ set5 w ob (.slice none 0 0) (.int .u64 0) (.int .u64 0) (.int .u64 0) (.int .u64 0) = w') := by
  have hec := cell_of_one he
  have hq : (er != 0) = true := by rw [bne_iff_ne]; exact hn
  obtain ⟨o0, o1, o2, o3, o4, f0, f1, f2, f3, f4⟩ := five ho
  clear he ho hn
  go_enter_d Try.func86, Try.ntmps86
  go_wp2
  go_end0
  exact ⟨rfl, rfl⟩
theorem meth_acc (i : Int) (w : World) : (method 239 75 (.int .i64 i) "distraint/bank.in").run Try.prog w = .ok (48, .int .i64 i) w := by kernel_rfl
theorem meth_pool (i : Int) (w : World) : (method 239 89 (.int .i64 i) "distraint/bank.in").run Try.prog w = .ok (111, .int .i64 i) w := by kernel_rfl
theorem meth (p : Pl) (w : World) : (method 239 p.ty (.int .i64 p.i) "distraint/bank.in").run Try.prog w = .ok (p.fn, .int .i64 p.i) w := by
  cases hb : p.isPool with
  | true => simpa [Pl.ty, Pl.fn, hb] using meth_pool p.i w
  | false => simpa [Pl.ty, Pl.fn, hb] using meth_acc p.i w
theorem in_yes (p : Pl) {W : World} {base ob g cap : Nat} {B : Bk} (h : Mem W base ob g cap B) (hp : p.err B = 0) (nB : B.L.length ≤ 9223372036854775807) :
    Calls Try.prog p.fn #[.int .i64 p.i, .pointer (some ⟨ob, 0, none⟩)] W fun e w' => e = .returned (.tuple #[.pointer (some (p.addr ob g)), .int .i64 0]) ∧ W = w' := by
  cases hb : p.isPool with
  | true =>
    obtain ⟨h0, h1⟩ := Pl.err_pool hb hp
    have := poolIn_yes p.i.toNat ob W (by omega)
    rw [Int.toNat_of_nonneg h0] at this
    simpa [Pl.fn, Pl.addr, hb] using this
  | false =>
    obtain ⟨h0, h1⟩ := Pl.err_acc hb hp
    have := accIn_yes p.i.toNat ob g 0 B.L.length cap W (by omega) nB (five h.out).1
    rw [Int.toNat_of_nonneg h0] at this
    simpa [Pl.fn, Pl.addr, hb] using this
theorem in_no (p : Pl) {W : World} {base ob g cap : Nat} {B : Bk} (h : Mem W base ob g cap B) (hp : p.err B ≠ 0) (nB : B.L.length ≤ 9223372036854775807) :
    Calls Try.prog p.fn #[.int .i64 p.i, .pointer (some ⟨ob, 0, none⟩)] W fun e w' => e = .returned (.tuple #[.pointer none, .int .i64 (p.err B)]) ∧ W = w' := by
  cases hb : p.isPool with
  | true =>
    have he : p.err B = poolE p.i := by simp [Pl.err, hb]
    have hn : ¬ (0 ≤ p.i ∧ p.i < 4) := fun hh => hp (by rw [he, poolE_yes hh.1 hh.2])
    have := poolIn_no p.i ob W hn
    rw [he, poolE_no hn]
    simpa [Pl.fn, hb] using this
  | false =>
    have he : p.err B = thereE B.L.length p.i := by simp [Pl.err, hb]
    have hn : ¬ (0 ≤ p.i ∧ p.i < B.L.length) := fun hh => hp (by rw [he, thereE_yes hh.1 hh.2])
    have := accIn_no p.i ob B.L.length cap _ W hn nB (five h.out).1
    rw [he, thereE_no hn]
    simpa [Pl.fn, hb] using this
end Go.Proofs.Ytjiffflhedekfaa
