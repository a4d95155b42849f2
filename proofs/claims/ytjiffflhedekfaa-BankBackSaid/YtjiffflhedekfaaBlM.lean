/- Blw, Bak: texts of this claim, merged. -/
import Derived.Test.YtjiffflhedekfaaKpl
import Derived.Test.YtjiffflhedekfaaNea
import Derived.Deep.RegionHeld3
section
/- Plain laws of moves: a move and the move back are nothing; two moves come to the same bank in either order. -/
namespace Go.Proofs.Ytjiffflhedekfaa
open Go.RowKit

deriving instance DecidableEq for Pl
theorem Pl.get_set {p q : Pl} {B : Bk} (hp : p.err B = 0) (hq : q.err B = 0) (x : Int) : q.get (p.set B x) = if q = p then x else q.get B := by
  obtain ⟨pb, i⟩ := p
  obtain ⟨qb, j⟩ := q
  cases pb <;> cases qb
  · have h1 := Pl.err_acc rfl hp
    have h2 := Pl.err_acc rfl hq
    simp only at h1 h2
    simp only [Pl.get, Pl.set, Bool.false_eq_true, if_false, List.getD_eq_getElem?_getD, Pl.mk.injEq, true_and]
    by_cases e : j = i
    · subst e
      rw [if_pos rfl, List.getElem?_set_self (by omega)]
      rfl
    · rw [if_neg e, List.getElem?_set_ne (by omega)]
  · simp [Pl.get, Pl.set, Bk.pool]
  · have h1 := Pl.err_pool rfl hp
    simp only at h1
    simp only [Pl.get, Pl.set, Bool.false_eq_true, if_false, if_true, setPool_L, Pl.mk.injEq, false_and]
  · have h1 := Pl.err_pool rfl hp
    have h2 := Pl.err_pool rfl hq
    simp only at h1 h2
    simp only [Pl.get, Pl.set, if_true, Pl.mk.injEq, true_and]
    rcases (show i = 0 ∨ i = 1 ∨ i = 2 ∨ i = 3 by omega) with rfl | rfl | rfl | rfl <;> rcases (show j = 0 ∨ j = 1 ∨ j = 2 ∨ j = 3 by omega) with rfl | rfl | rfl | rfl <;> simp [Bk.setPool, Bk.pool]

theorem err_acc_ok {B : Bk} {i : Nat} (h : i < B.L.length) : (⟨false, i⟩ : Pl).err B = 0 := by
  simp only [Pl.err, Bool.false_eq_true, if_false, thereE]
  rw [if_pos (by omega)]
theorem err_pool_ok {B : Bk} {i : Nat} (h : i < 4) : (⟨true, i⟩ : Pl).err B = 0 := by
  simp only [Pl.err, if_true, poolE]
  rw [if_pos (by omega)]
theorem Bk.ext_get {B C : Bk} (hl : C.L.length = B.L.length) (h : ∀ q : Pl, q.err B = 0 → q.get C = q.get B) : C = B := by
  obtain ⟨L, p0, p1, p2, p3⟩ := B
  obtain ⟨M, q0, q1, q2, q3⟩ := C
  have h0 := h ⟨true, (0 : Nat)⟩ (err_pool_ok (by omega))
  have h1 := h ⟨true, (1 : Nat)⟩ (err_pool_ok (by omega))
  have h2 := h ⟨true, (2 : Nat)⟩ (err_pool_ok (by omega))
  have h3 := h ⟨true, (3 : Nat)⟩ (err_pool_ok (by omega))
  simp [Pl.get, Bk.pool] at h0 h1 h2 h3
  have hL : M = L := by
    refine List.ext_getElem hl fun i hi hj => ?_
    have := h ⟨false, (i : Nat)⟩ (err_acc_ok hj)
    simp only at hi hj hl
    simpa [Pl.get, List.getD_eq_getElem?_getD, hi, hj] using this
  subst hL h0 h1 h2 h3
  rfl

/-- The bank behind a move. -/
def mv (B : Bk) (f t : Pl) (n : Int) : Bk := t.set (f.set B (f.get B - n)) (t.get (f.set B (f.get B - n)) + n)
theorem mv_len (B : Bk) (f t : Pl) (n : Int) : (mv B f t n).L.length = B.L.length := by simp only [mv, Pl.set_len]
theorem err_len {p : Pl} {B C : Bk} (h : C.L.length = B.L.length) : p.err C = p.err B := by unfold Pl.err; rw [h]
theorem mv_get {B : Bk} {f t q : Pl} (hf : f.err B = 0) (ht : t.err B = 0) (hq : q.err B = 0) (n : Int) :
    q.get (mv B f t n) = q.get B - (if q = f then n else 0) + (if q = t then n else 0) := by
  unfold mv
  rw [Pl.get_set (by rw [Pl.err_set]; exact ht) (by rw [Pl.err_set]; exact hq), Pl.get_set hf ht, Pl.get_set hf hq]
  by_cases e1 : q = t
  · subst e1
    rw [if_pos rfl, if_pos rfl]
    by_cases e2 : q = f
    · subst e2; rw [if_pos rfl, if_pos rfl]
    · rw [if_neg e2, if_neg e2]; omega
  · rw [if_neg e1, if_neg e1]
    by_cases e2 : q = f
    · subst e2; rw [if_pos rfl, if_pos rfl]; omega
    · rw [if_neg e2, if_neg e2]; omega
theorem moveR_is {B X : Bk} {f t : Pl} {n : Int} {bar : Bool} (hw : B.Wf) (hn : W64 n) (h : moveR B f t n bar = (X, 0)) :
    X = mv B f t n ∧ X.Wf ∧ X.L.length = B.L.length ∧ X.chk = 0 ∧ B.chk = 0 ∧ f.err B = 0 ∧ t.err B = 0 ∧ bar = false ∧ n ≤ f.get B := by
  have h0 : (moveR B f t n bar).2 = 0 := by rw [h]
  obtain ⟨a1, a2, a3, a4, a5, a6, a7, a8⟩ := moveR_done hw hn h0
  have hm : (moveR B f t n bar).1 = mv B f t n := by
    unfold moveR mv
    rw [if_neg (by omega), if_neg (by omega), if_neg (by omega), a7]
    simp only [Bool.false_eq_true, if_false]
    rw [if_neg (by omega)]
  rw [h] at a1 a2 a3 hm
  exact ⟨hm, a1, a2, (chk_same a2 a3).trans a4, a4, a5, a6, a7, a8⟩
theorem moveR_back {B X : Bk} {f t : Pl} {n : Int} {bar : Bool} (hw : B.Wf) (hn : W64 n) (h : moveR B f t n bar = (X, 0)) : moveR X t f n false = (B, 0) := by
  obtain ⟨rfl, hXw, hXl, hXc, hBc, hf, ht, _, hle⟩ := moveR_is hw hn h
  have ef : f.err (mv B f t n) = 0 := (err_len hXl).trans hf
  have et : t.err (mv B f t n) = 0 := (err_len hXl).trans ht
  have hg : n ≤ t.get (mv B f t n) := by
    rw [mv_get hf ht ht, if_pos rfl]
    by_cases e : t = f
    · subst e; rw [if_pos rfl]; omega
    · rw [if_neg e]
      have := (Pl.get_le ht hw).1
      omega
  have hm : mv (mv B f t n) t f n = B := by
    refine Bk.ext_get ((mv_len _ _ _ _).trans hXl) fun q hq => ?_
    rw [mv_get et ef ((err_len hXl).trans hq), mv_get hf ht hq]
    omega
  unfold moveR
  rw [if_neg (by omega), if_neg (by omega), if_neg (by omega)]
  simp only [Bool.false_eq_true, if_false]
  rw [if_neg (by omega)]
  exact congrArg (·, (0 : Int)) hm
theorem moveR_swap {B C D G I : Bk} {f t f' t' : Pl} {n m : Int} {bar bar' : Bool} (hw : B.Wf) (hn : W64 n) (hm : W64 m) (h1 : moveR B f t n bar = (C, 0)) (h2 : moveR C f' t' m bar' = (D, 0)) (h3 : moveR B f' t' m bar' = (G, 0)) (h4 : moveR G f t n bar = (I, 0)) : I = D := by
  obtain ⟨rfl, w1, l1, _, _, f1, t1, _⟩ := moveR_is hw hn h1
  obtain ⟨rfl, w2, l2, _, _, f2, t2, _⟩ := moveR_is w1 hm h2
  obtain ⟨rfl, w3, l3, _, _, f3, t3, _⟩ := moveR_is hw hm h3
  obtain ⟨rfl, w4, l4, _, _, f4, t4, _⟩ := moveR_is w3 hn h4
  refine Bk.ext_get (by rw [l4, l3, l2, l1]) fun q hq => ?_
  have hqB : q.err B = 0 := by rw [← hq]; exact (err_len (by rw [l2, l1])).symm
  rw [mv_get f4 t4 ((err_len l3).trans hqB), mv_get f3 t3 hqB, mv_get f2 t2 ((err_len l1).trans hqB), mv_get f1 t1 hqB]
  omega

/-- A move of a kind, as a move between places. -/
theorem doesR_form {k f t n : Int} (hk : 0 ≤ k ∧ k ≤ 4) : ∃ (p q : Pl) (bar : Bool), ∀ B, doesR B k f t n = moveR B p q n bar := by
  rcases (show k = 0 ∨ k = 1 ∨ k = 2 ∨ k = 3 ∨ k = 4 by omega) with rfl | rfl | rfl | rfl | rfl
  · exact ⟨_, _, _, fun B => rfl⟩
  · exact ⟨_, _, _, fun B => rfl⟩
  · exact ⟨_, _, _, fun B => rfl⟩
  · exact ⟨_, _, _, fun B => rfl⟩
  · exact ⟨_, _, _, fun B => rfl⟩
theorem doesR_swap {B C D G I : Bk} {k f t n k' f' t' n' : Int} (hw : B.Wf) (hk : 0 ≤ k ∧ k ≤ 4) (hk' : 0 ≤ k' ∧ k' ≤ 4) (hn : W64 n) (hm : W64 n') (h1 : doesR B k f t n = (C, 0)) (h2 : doesR C k' f' t' n' = (D, 0)) (h3 : doesR B k' f' t' n' = (G, 0)) (h4 : doesR G k f t n = (I, 0)) : I = D := by
  obtain ⟨p, q, bar, e⟩ := doesR_form (f := f) (t := t) (n := n) hk
  obtain ⟨p', q', bar', e'⟩ := doesR_form (f := f') (t := t') (n := n') hk'
  rw [e] at h1 h4
  rw [e'] at h2 h3
  exact moveR_swap hw hn hm h1 h2 h3 h4
/-- The move back, and whether there is one. -/
def backR (k f t n : Int) : (Int × Int × Int × Int) × Bool :=
  if k = 0 then ((0, t, f, n), true) else if k = 1 then ((2, t, f, n), true) else if k = 2 then ((1, t, f, n), t != 2) else if k = 3 then ((3, t, f, n), t != 2) else ((k, f, t, n), false)
theorem doesR_back {B C : Bk} {k f t n a b c d : Int} (hw : B.Wf) (hn : W64 n) (hk : 0 ≤ k ∧ k ≤ 4) (h1 : doesR B k f t n = (C, 0)) (hb : backR k f t n = ((a, b, c, d), true)) : doesR C a b c d = (B, 0) := by
  rcases (show k = 0 ∨ k = 1 ∨ k = 2 ∨ k = 3 ∨ k = 4 by omega) with rfl | rfl | rfl | rfl | rfl
  · simp only [backR, if_true, Prod.mk.injEq] at hb
    obtain ⟨⟨rfl, rfl, rfl, rfl⟩, _⟩ := hb
    have h1 : moveR B ⟨false, f⟩ ⟨false, t⟩ n (f == t || n == 0) = (C, 0) := h1
    have hbar := (moveR_is hw hn h1).2.2.2.2.2.2.2.1
    have := moveR_back hw hn h1
    show moveR C ⟨false, t⟩ ⟨false, f⟩ n (t == f || n == 0) = (B, 0)
    rw [show (t == f || n == 0) = false by simp at hbar ⊢; omega]
    exact this
  · simp [backR] at hb
    obtain ⟨rfl, rfl, rfl, rfl⟩ := hb
    have h1 : moveR B ⟨true, f⟩ ⟨false, t⟩ n (f == 2) = (C, 0) := h1
    exact moveR_back hw hn h1
  · simp [backR] at hb
    obtain ⟨⟨rfl, rfl, rfl, rfl⟩, hb⟩ := hb
    have h1 : moveR B ⟨false, f⟩ ⟨true, t⟩ n false = (C, 0) := h1
    show moveR C ⟨true, t⟩ ⟨false, f⟩ n (t == 2) = (B, 0)
    rw [show (t == 2) = false by simp; omega]
    exact moveR_back hw hn h1
  · simp [backR] at hb
    obtain ⟨⟨rfl, rfl, rfl, rfl⟩, hb⟩ := hb
    have h1 : moveR B ⟨true, f⟩ ⟨true, t⟩ n (f == t || f == 2) = (C, 0) := h1
    have hbar := (moveR_is hw hn h1).2.2.2.2.2.2.2.1
    show moveR C ⟨true, t⟩ ⟨true, f⟩ n (t == f || t == 2) = (B, 0)
    rw [show (t == f || t == 2) = false by simp at hbar ⊢; omega]
    exact moveR_back hw hn h1
  · simp [backR] at hb
end Go.Proofs.Ytjiffflhedekfaa
end
section
/- distraintlaw09.back. -/
namespace Go.Proofs.Ytjiffflhedekfaa
open Go.RowKit

def BackP (w : World) (k f t n : Int) (e : Ending) (w' : World) : Prop :=
  ∃ a b c d z, backR k f t n = ((a, b, c, d), z) ∧ e = .returned (.tuple #[.agg #[.int .i64 a, .int .i64 b, .int .i64 c, .int .u64 d], .bool z]) ∧ Below w.heap.size w w'

set_option maxRecDepth 100000 in
set_option maxHeartbeats 2000000 in
theorem back_0 (f t n : Int) (w : World) : Calls Try.prog 40 #[.agg #[.int .i64 0, .int .i64 f, .int .i64 t, .int .u64 n]] w (BackP w 0 f t n) := by
  go_enter Try.func40, Try.ntmps40
  go_wp2_with fail
  refine bodyPost_ret (v := .tuple #[.agg #[.int .i64 0, .int .i64 t, .int .i64 f, .int .u64 n], .bool true]) (by simp [results, Try.results40, go_sem]) rfl ?_
  exact ⟨_, _, _, _, _, rfl, rfl, ((Below.refl w.heap.size w).alloc (Nat.le_refl _) _).alloc (by simp) _⟩
set_option maxRecDepth 100000 in
set_option maxHeartbeats 2000000 in
theorem back_1 (f t n : Int) (w : World) : Calls Try.prog 40 #[.agg #[.int .i64 1, .int .i64 f, .int .i64 t, .int .u64 n]] w (BackP w 1 f t n) := by
  go_enter Try.func40, Try.ntmps40
  go_wp2_with fail
  refine bodyPost_ret (v := .tuple #[.agg #[.int .i64 2, .int .i64 t, .int .i64 f, .int .u64 n], .bool true]) (by simp [results, Try.results40, go_sem]) rfl ?_
  exact ⟨_, _, _, _, _, rfl, rfl, ((Below.refl w.heap.size w).alloc (Nat.le_refl _) _).alloc (by simp) _⟩
set_option maxRecDepth 100000 in
set_option maxHeartbeats 2000000 in
theorem back_2 (f t n : Int) (w : World) : Calls Try.prog 40 #[.agg #[.int .i64 2, .int .i64 f, .int .i64 t, .int .u64 n]] w (BackP w 2 f t n) := by
  go_enter Try.func40, Try.ntmps40
  go_wp2_with fail
  go_region_held3 (fun w' => w'.cell? ⟨w.heap.size, 1, none⟩ = some (.int .i64 f) ∧ w'.cell? ⟨w.heap.size, 2, none⟩ = some (.int .i64 t) ∧ w'.cell? ⟨w.heap.size, 3, none⟩ = some (.int .u64 n))
    (first | (simp [go_sem]; done) | go_keep) (fail)
  all_goals
    go_wp2_with fail
    refine bodyPost_ret (v := .tuple #[.agg #[.int .i64 1, .int .i64 t, .int .i64 f, .int .u64 n], .bool (t != 2)]) (by simp [results, Try.results40, go_sem]) rfl ?_
    exact ⟨_, _, _, _, _, rfl, rfl, (((Below.refl w.heap.size w).alloc (Nat.le_refl _) _).alloc (by simp) _).drew⟩
set_option maxRecDepth 100000 in
set_option maxHeartbeats 2000000 in
theorem back_3 (f t n : Int) (w : World) : Calls Try.prog 40 #[.agg #[.int .i64 3, .int .i64 f, .int .i64 t, .int .u64 n]] w (BackP w 3 f t n) := by
  go_enter Try.func40, Try.ntmps40
  go_wp2_with fail
  go_region_held3 (fun w' => w'.cell? ⟨w.heap.size, 1, none⟩ = some (.int .i64 f) ∧ w'.cell? ⟨w.heap.size, 2, none⟩ = some (.int .i64 t) ∧ w'.cell? ⟨w.heap.size, 3, none⟩ = some (.int .u64 n))
    (first | (simp [go_sem]; done) | go_keep) (fail)
  all_goals
    go_wp2_with fail
    refine bodyPost_ret (v := .tuple #[.agg #[.int .i64 3, .int .i64 t, .int .i64 f, .int .u64 n], .bool (t != 2)]) (by simp [results, Try.results40, go_sem]) rfl ?_
    exact ⟨_, _, _, _, _, rfl, rfl, (((Below.refl w.heap.size w).alloc (Nat.le_refl _) _).alloc (by simp) _).drew⟩
set_option maxRecDepth 100000 in
set_option maxHeartbeats 2000000 in
theorem back_4 (f t n : Int) (w : World) : Calls Try.prog 40 #[.agg #[.int .i64 4, .int .i64 f, .int .i64 t, .int .u64 n]] w (BackP w 4 f t n) := by
  go_enter Try.func40, Try.ntmps40
  go_wp2_with fail
  refine bodyPost_ret (v := .tuple #[.agg #[.int .i64 4, .int .i64 f, .int .i64 t, .int .u64 n], .bool false]) (by simp [results, Try.results40, go_sem]) rfl ?_
  exact ⟨_, _, _, _, _, rfl, rfl, ((Below.refl w.heap.size w).alloc (Nat.le_refl _) _).alloc (by simp) _⟩
theorem back_any (k f t n : Int) (w : World) (hk : 0 ≤ k ∧ k ≤ 4) : Calls Try.prog 40 #[.agg #[.int .i64 k, .int .i64 f, .int .i64 t, .int .u64 n]] w (BackP w k f t n) := by
  rcases (show k = 0 ∨ k = 1 ∨ k = 2 ∨ k = 3 ∨ k = 4 by omega) with rfl | rfl | rfl | rfl | rfl
  · exact back_0 f t n w
  · exact back_1 f t n w
  · exact back_2 f t n w
  · exact back_3 f t n w
  · exact back_4 f t n w
end Go.Proofs.Ytjiffflhedekfaa
end
