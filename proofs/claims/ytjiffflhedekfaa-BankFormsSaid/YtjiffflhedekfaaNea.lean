/- distraintlaw09.near. -/
import Derived.Test.YtjiffflhedekfaaSmn
import Derived.Deep.RegionHeld3
namespace Go.Proofs.Ytjiffflhedekfaa
open Go.RowKit

def I64 (x : Int) : Prop := -9223372036854775808 ≤ x ∧ x ≤ 9223372036854775807
/-- A near move is told. -/
def NearP (w : World) (e : Ending) (w' : World) : Prop :=
  ∃ k f t n : Int, e = .returned (.agg #[.int .i64 k, .int .i64 f, .int .i64 t, .int .u64 n]) ∧ (0 ≤ k ∧ k ≤ 4) ∧ W64 n ∧ I64 f ∧ I64 t ∧ Below w.heap.size w w'

theorem pick_at (x m : Int) (w : World) (hx : I64 x) (h0 : 0 < m) (h1 : m ≤ 1000000) :
    Calls Try.prog 68 #[.int .i64 x, .int .i64 m] w fun e w' => e = .returned (.int .i64 (x % m)) ∧ w = w' := by
  obtain ⟨n, rfl⟩ : ∃ n : Nat, m = n := ⟨m.toNat, by omega⟩
  exact pick_any x n w hx (by omega) (by omega)
theorem mod_in (x m : Int) (h0 : 0 < m) (h1 : m ≤ 1000000) : I64 (x % m) := by
  have h2 := Int.emod_nonneg x (show m ≠ 0 by omega)
  have h3 := Int.emod_lt_of_pos x h0
  exact ⟨by omega, by omega⟩

set_option maxRecDepth 100000 in
set_option maxHeartbeats 2000000 in
theorem near_a (ao : Option Addr) (B : Bk) (c : Nat) (k f t n : Int) (w : World) (nB : B.L.length ≤ 1000) (hlen : B.L.length < 4) (hk : I64 k) (hf : I64 f) (ht : I64 t) (hn : W64 n) :
    Calls Try.prog 39 #[.agg #[.slice ao B.L.length c, .int .u64 B.p0, .int .u64 B.p1, .int .u64 B.p2, .int .u64 B.p3], .agg #[.int .i64 k, .int .i64 f, .int .i64 t, .int .u64 n]] w (NearP w) := by
  obtain ⟨n0, n1⟩ := hn
  have C1 := Lib.hid (fun w => pick_at k 5 w hk (by omega) (by omega))
  have C2 := Lib.hid (fun w => pick_at f (5) w hf (by omega) (by omega))
  have C3 := Lib.hid (fun w => pick_at t (5) w ht (by omega) (by omega))
  have hn2 : n % 2199023255552 < 2199023255552 := by omega
  have hn3 : 0 ≤ n % 2199023255552 := by omega
  have HF := Lib.hid (And.intro (mod_in f (5) (by omega) (by omega)) (mod_in t (5) (by omega) (by omega)))
  have HK : Hid (0 ≤ k % 5 ∧ k % 5 ≤ 4) := Lib.hid (by omega)
  clear hk hf ht
  go_enter Try.func39, Try.ntmps39
  go_wp2_with fail
  go_region_held3 (fun w' => w'.cell? ⟨w.heap.size + 1, 0, none⟩ = some (.int .i64 k) ∧ w'.cell? ⟨w.heap.size + 1, 1, none⟩ = some (.int .i64 f) ∧ w'.cell? ⟨w.heap.size + 1, 2, none⟩ = some (.int .i64 t) ∧ w'.cell? ⟨w.heap.size + 1, 3, none⟩ = some (.int .u64 n))
    (first | go_keep | (go_split_ands; refine ⟨?_, ?_, ?_, ?_⟩ <;> (simp [go_sem]; done)))
    (first | (go_at_call_of 68 (Value.int IntKind.i64 k); refine (C1.out _).mono ?_; rintro e w1 ⟨rfl, rfl⟩) | (go_at_call_of 68 (Value.int IntKind.i64 f); refine (C2.out _).mono ?_; rintro e w1 ⟨rfl, rfl⟩) | (go_at_call_of 68 (Value.int IntKind.i64 t); refine (C3.out _).mono ?_; rintro e w1 ⟨rfl, rfl⟩))
  all_goals
    go_wp2_with fail
    refine bodyPost_ret (v := .agg #[.int .i64 (k % 5), .int .i64 (f % (5)), .int .i64 (t % (5)), .int .u64 (n.tmod 2199023255552)]) (by simp [results, Try.results39, go_sem]) rfl ?_
    refine ⟨k % 5, _, _, _, rfl, HK.out, ⟨by rw [Int.tmod_eq_emod_of_nonneg n0]; exact hn3, by rw [Int.tmod_eq_emod_of_nonneg n0]; omega⟩, HF.out.1, HF.out.2, ?_⟩
    exact ((((Below.refl w.heap.size w).alloc (Nat.le_refl _) _).alloc (by simp) _).alloc (by simp; omega) _).drew
set_option maxRecDepth 100000 in
set_option maxHeartbeats 2000000 in
theorem near_b (ao : Option Addr) (B : Bk) (c : Nat) (k f t n : Int) (w : World) (nB : B.L.length ≤ 1000) (hlen : 4 ≤ B.L.length) (hk : I64 k) (hf : I64 f) (ht : I64 t) (hn : W64 n) :
    Calls Try.prog 39 #[.agg #[.slice ao B.L.length c, .int .u64 B.p0, .int .u64 B.p1, .int .u64 B.p2, .int .u64 B.p3], .agg #[.int .i64 k, .int .i64 f, .int .i64 t, .int .u64 n]] w (NearP w) := by
  obtain ⟨n0, n1⟩ := hn
  have C1 := Lib.hid (fun w => pick_at k 5 w hk (by omega) (by omega))
  have C2 := Lib.hid (fun w => pick_at f ((B.L.length : Int) + 1) w hf (by omega) (by omega))
  have C3 := Lib.hid (fun w => pick_at t ((B.L.length : Int) + 1) w ht (by omega) (by omega))
  have hn2 : n % 2199023255552 < 2199023255552 := by omega
  have hn3 : 0 ≤ n % 2199023255552 := by omega
  have HF := Lib.hid (And.intro (mod_in f ((B.L.length : Int) + 1) (by omega) (by omega)) (mod_in t ((B.L.length : Int) + 1) (by omega) (by omega)))
  have HK : Hid (0 ≤ k % 5 ∧ k % 5 ≤ 4) := Lib.hid (by omega)
  clear hk hf ht
  go_enter Try.func39, Try.ntmps39
  go_wp2_with fail
  go_region_held3 (fun w' => w'.cell? ⟨w.heap.size + 1, 0, none⟩ = some (.int .i64 k) ∧ w'.cell? ⟨w.heap.size + 1, 1, none⟩ = some (.int .i64 f) ∧ w'.cell? ⟨w.heap.size + 1, 2, none⟩ = some (.int .i64 t) ∧ w'.cell? ⟨w.heap.size + 1, 3, none⟩ = some (.int .u64 n))
    (first | go_keep | (go_split_ands; refine ⟨?_, ?_, ?_, ?_⟩ <;> (simp [go_sem]; done)))
    (first | (go_at_call_of 68 (Value.int IntKind.i64 k); refine (C1.out _).mono ?_; rintro e w1 ⟨rfl, rfl⟩) | (go_at_call_of 68 (Value.int IntKind.i64 f); refine (C2.out _).mono ?_; rintro e w1 ⟨rfl, rfl⟩) | (go_at_call_of 68 (Value.int IntKind.i64 t); refine (C3.out _).mono ?_; rintro e w1 ⟨rfl, rfl⟩))
  all_goals
    go_wp2_with fail
    refine bodyPost_ret (v := .agg #[.int .i64 (k % 5), .int .i64 (f % ((B.L.length : Int) + 1)), .int .i64 (t % ((B.L.length : Int) + 1)), .int .u64 (n.tmod 2199023255552)]) (by simp [results, Try.results39, go_sem]) rfl ?_
    refine ⟨k % 5, _, _, _, rfl, HK.out, ⟨by rw [Int.tmod_eq_emod_of_nonneg n0]; exact hn3, by rw [Int.tmod_eq_emod_of_nonneg n0]; omega⟩, HF.out.1, HF.out.2, ?_⟩
    exact ((((Below.refl w.heap.size w).alloc (Nat.le_refl _) _).alloc (by simp) _).alloc (by simp; omega) _).drew
theorem near_any (ao : Option Addr) (B : Bk) (c : Nat) (k f t n : Int) (w : World) (nB : B.L.length ≤ 1000) (hk : I64 k) (hf : I64 f) (ht : I64 t) (hn : W64 n) :
    Calls Try.prog 39 #[.agg #[.slice ao B.L.length c, .int .u64 B.p0, .int .u64 B.p1, .int .u64 B.p2, .int .u64 B.p3], .agg #[.int .i64 k, .int .i64 f, .int .i64 t, .int .u64 n]] w (NearP w) := by
  rcases Nat.lt_or_ge B.L.length 4 with h | h
  · exact near_a ao B c k f t n w nB h hk hf ht hn
  · exact near_b ao B c k f t n w nB h hk hf ht hn
end Go.Proofs.Ytjiffflhedekfaa
