/- A journal that is nil, or that nobody made: it has nothing, and does nothing. -/
import Derived.Test.YtkpfnonacebmkaaKn
namespace Go.Proofs.Ytkpfnonacebmkaa
open Go.RowKit

/-- No journal: nil, or the zero value. -/
def Ab (w : World) (p : Option Addr) : Prop := p = none ∨ ∃ b, p = some ⟨b, 0, none⟩ ∧ w.heap[b]? = some (.cells #[.slice none 0 0, .pointer none, .slice none 0 0] 65 (0, 0))
theorem Ab.below {w w' : World} {p : Option Addr} (h : Ab w p) (hb : Below w.heap.size w w') : Ab w' p :=
  h.imp id fun ⟨b, e, h1⟩ => ⟨b, e, (hb.block b (lt_of_block h1)).trans h1⟩
section
variable {W : World} {p : Option Addr}
set_option maxHeartbeats 400000
theorem none_ab (h : Ab W p) : Calls Try.prog 37 #[.pointer p] W fun e w' => e = .returned (.bool true) ∧ W = w' := by
  rcases h with rfl | ⟨b, rfl, h⟩
  · exact none_nil W
  · obtain ⟨a0, a1, a2, f0, f1, f2⟩ := three h
    clear h
    go_enter Try.func37, Try.ntmps37
    go_wp2
    go_ret
    exact ⟨rfl, rfl⟩
theorem may_ab (h : Ab W p) (ao : Option Addr) (n c : Nat) : Calls Try.prog 52 #[.pointer p, .slice ao n c] W fun e w' => e = .returned (.int .i64 1) ∧ W = w' := by
  have HN := Lib.hid (none_ab h)
  clear h
  go_enter Try.func52, Try.ntmps52
  go_wp2_with fail
  refine HN.out.mono ?_
  rintro e w' ⟨rfl, rfl⟩
  go_wp2_with fail
  go_ret
  exact ⟨rfl, rfl⟩
theorem get_ab (h : Ab W p) (i : Int) : Calls Try.prog 27 #[.pointer p, .int .i64 i] W fun e w' => e = .returned (.tuple #[.int .u64 0, .int .i64 1]) ∧ Below W.heap.size W w' := by
  have HM := Lib.hid (may_ab (h.below ((Below.refl W.heap.size W).alloc (Nat.le_refl _) (.cells #[.int .i64 i] 3))) (some ⟨W.heap.size, 0, none⟩) 1 1)
  clear h
  go_enter Try.func27, Try.ntmps27
  go_wp2_with fail
  refine HM.out.mono ?_
  rintro e w' ⟨rfl, rfl⟩
  go_wp2_with fail
  go_ret2
  exact ⟨rfl, (Below.refl _ _).alloc (Nat.le_refl _) _⟩
theorem begin_ab (h : Ab W p) : Calls Try.prog 13 #[.pointer p] W fun e w' => e = .returned (.tuple #[.int .i64 0, .int .i64 1]) ∧ W = w' := by
  have HN := Lib.hid (none_ab h)
  clear h
  go_enter Try.func13, Try.ntmps13
  go_wp2_with fail
  refine HN.out.mono ?_
  rintro e w' ⟨rfl, rfl⟩
  go_wp2_with fail
  go_ret2
  exact ⟨rfl, rfl⟩
def AbP (W : World) (er : Int) (e : Ending) (w' : World) : Prop := e = .returned (.int .i64 er) ∧ Below W.heap.size W w'
theorem set_ab (h : Ab W p) (i n : Int) : Calls Try.prog 28 #[.pointer p, .int .i64 i, .int .u64 n] W (AbP W 1) := by
  have HM := Lib.hid (may_ab (h.below ((Below.refl W.heap.size W).alloc (Nat.le_refl _) (.cells #[.int .i64 i] 3))) (some ⟨W.heap.size, 0, none⟩) 1 1)
  clear h
  go_enter Try.func28, Try.ntmps28
  go_wp2_with fail
  refine HM.out.mono ?_
  rintro e w' ⟨rfl, rfl⟩
  go_wp2_with fail
  go_ret
  exact ⟨rfl, (Below.refl _ _).alloc (Nat.le_refl _) _⟩
theorem change_ab (h : Ab W p) (i n : Int) (f : Value) : Calls Try.prog 39 #[.pointer p, .int .i64 i, .int .u64 n, f] W (AbP W 1) := by
  have HM := Lib.hid (may_ab (h.below ((Below.refl W.heap.size W).alloc (Nat.le_refl _) (.cells #[.int .i64 i] 3))) (some ⟨W.heap.size, 0, none⟩) 1 1)
  clear h
  go_enter Try.func39, Try.ntmps39
  go_wp2_with fail
  refine HM.out.mono ?_
  rintro e w' ⟨rfl, rfl⟩
  go_wp2_with fail
  go_ret
  exact ⟨rfl, (Below.refl _ _).alloc (Nat.le_refl _) _⟩
theorem add_ab (h : Ab W p) (i n : Int) : Calls Try.prog 15 #[.pointer p, .int .i64 i, .int .u64 n] W (AbP W 1) := by
  have HC := Lib.hid (change_ab h i n (.func (.func 40) #[] #[]))
  clear h
  go_enter Try.func15, Try.ntmps15
  go_wp2_with fail
  refine HC.out.mono ?_
  rintro e w' ⟨rfl, hb⟩
  go_wp2_with fail
  go_ret
  exact ⟨rfl, hb⟩
theorem sub_ab (h : Ab W p) (i n : Int) : Calls Try.prog 29 #[.pointer p, .int .i64 i, .int .u64 n] W (AbP W 1) := by
  have HC := Lib.hid (change_ab h i n (.func (.func 56) #[] #[]))
  clear h
  go_enter Try.func29, Try.ntmps29
  go_wp2_with fail
  refine HC.out.mono ?_
  rintro e w' ⟨rfl, hb⟩
  go_wp2_with fail
  go_ret
  exact ⟨rfl, hb⟩
theorem close_ab (h : Ab W p) : Calls Try.prog 59 #[.pointer p] W fun e w' => e = .returned (.tuple #[.agg #[.pointer none, .map none], .int .i64 1]) ∧ Below W.heap.size W w' := by
  have HN := Lib.hid (none_ab (h.below ((Below.refl W.heap.size W).alloc (Nat.le_refl _) (.cells #[.pointer none, .map none] 73))))
  clear h
  go_enter Try.func59, Try.ntmps59
  go_wp2_with fail
  refine HN.out.mono ?_
  rintro e w' ⟨rfl, rfl⟩
  go_wp2_with fail
  refine bodyPost_ret (v := .tuple #[.agg #[.pointer none, .map none], .int .i64 1]) (by simp [results, Try.results59, go_sem]) rfl ?_
  exact ⟨rfl, (Below.refl _ _).alloc (Nat.le_refl _) _⟩
theorem keep_ab (h : Ab W p) : Calls Try.prog 51 #[.pointer p] W (AbP W 1) := by
  have HC := Lib.hid (close_ab h)
  clear h
  go_enter Try.func51, Try.ntmps51
  go_wp2_with fail
  refine HC.out.mono ?_
  rintro e w1 ⟨rfl, hb⟩
  have HB := Lib.hid hb
  clear hb
  go_wp2_with fail
  go_ret
  exact ⟨rfl, HB.out.alloc HB.out.size _⟩
theorem undo_ab (h : Ab W p) : Calls Try.prog 34 #[.pointer p] W (AbP W 1) := by
  have HC := Lib.hid (close_ab h)
  clear h
  go_enter Try.func34, Try.ntmps34
  go_wp2_with fail
  refine HC.out.mono ?_
  rintro e w1 ⟨rfl, hb⟩
  have HB := Lib.hid hb
  clear hb
  go_wp2_with fail
  go_ret
  exact ⟨rfl, HB.out.alloc HB.out.size _⟩
theorem back_ab (h : Ab W p) (d : Int) : Calls Try.prog 18 #[.pointer p, .int .i64 d] W (AbP W 1) := by
  have HN := Lib.hid (none_ab h)
  clear h
  go_enter Try.func18, Try.ntmps18
  go_wp2_with fail
  refine HN.out.mono ?_
  rintro e w' ⟨rfl, rfl⟩
  go_wp2_with fail
  go_ret
  exact ⟨rfl, Below.refl _ _⟩
theorem depth_ab (h : Ab W p) : Calls Try.prog 24 #[.pointer p] W fun e w' => e = .returned (.int .i64 0) ∧ W = w' := by
  have HN := Lib.hid (none_ab h)
  clear h
  go_enter Try.func24, Try.ntmps24
  go_wp2_with fail
  refine HN.out.mono ?_
  rintro e w' ⟨rfl, rfl⟩
  go_wp2_with fail
  go_ret
  exact ⟨rfl, rfl⟩
theorem cells_ab (h : Ab W p) : Calls Try.prog 26 #[.pointer p] W fun e w' => e = .returned (.slice none 0 0) ∧ W = w' := by
  have HN := Lib.hid (none_ab h)
  clear h
  go_enter Try.func26, Try.ntmps26
  go_wp2_with fail
  refine HN.out.mono ?_
  rintro e w' ⟨rfl, rfl⟩
  go_wp2_with fail
  go_ret
  exact ⟨rfl, rfl⟩
theorem touched_ab (h : Ab W p) : Calls Try.prog 32 #[.pointer p] W fun e w' => e = .returned (.slice none 0 0) ∧ W = w' := by
  have HN := Lib.hid (depth_ab h)
  clear h
  go_enter Try.func32, Try.ntmps32
  go_wp2_with fail
  refine HN.out.mono ?_
  rintro e w' ⟨rfl, rfl⟩
  go_wp2_with fail
  go_ret
  exact ⟨rfl, rfl⟩
theorem copy_ab (h : Ab W p) : Calls Try.prog 35 #[.pointer p] W fun e w' => ∃ q, e = .returned (.pointer q) ∧ Ab w' q ∧ Below W.heap.size W w' := by
  have HN := Lib.hid (none_ab h)
  clear h
  go_enter Try.func35, Try.ntmps35
  go_wp2_with fail
  refine HN.out.mono ?_
  rintro e w' ⟨rfl, rfl⟩
  go_wp2_with fail
  go_ret
  exact ⟨_, rfl, .inr ⟨_, rfl, heap_at W _ rfl⟩, (Below.refl _ _).alloc (Nat.le_refl _) _⟩

/-- The blocks at Move's head. -/
structure MvN (W w1 : World) (p : Option Addr) (i k : Int) : Prop where
  b : Below W.heap.size W w1
  j : w1.heap[W.heap.size]? = some (.cells #[.pointer p] 22 (0, 0))
  i : w1.heap[W.heap.size + 1]? = some (.cells #[.int .i64 i] 3 (0, 0))
  e : w1.heap[W.heap.size + 1 + 1]? = some (.cells #[.int .i64 0] 23 (0, 0))
  s : w1.heap.size = W.heap.size + 4
theorem MvN.init (W : World) (p : Option Addr) (i k : Int) : MvN W ((((W.alloc (.cells #[.pointer p] 22)).alloc (.cells #[.int .i64 i] 3)).alloc (.cells #[.int .i64 0] 23)).alloc (.cells #[.int .i64 i, .int .i64 k] 3)) p i k := by
  refine ⟨(((((Below.refl _ _).alloc (Nat.le_refl _) _).alloc (by simp) _).alloc (by simp; try omega) _).alloc (by simp; try omega) _), ?_, ?_, ?_, by simp⟩
  · exact (heap_old _ _ (by simp; try omega)).trans ((heap_old _ _ (by simp; try omega)).trans ((heap_old _ _ (by simp)).trans (heap_at W _ rfl)))
  · exact (heap_old _ _ (by simp; try omega)).trans ((heap_old _ _ (by simp)).trans (heap_at (W.alloc _) _ (by simp)))
  · exact (heap_old _ _ (by simp)).trans (heap_at ((W.alloc _).alloc _) _ (by simp))
theorem heap1_setN {w : World} {b : Nat} {v0 : Value} {t : TypeId} (h : w.heap[b]? = some (.cells #[v0] t (0, 0))) (x : Value) :
    (w.setCell ⟨b, 0, none⟩ x).heap[b]? = some (.cells #[x] t (0, 0)) := by simp [World.setCell, Array.getElem?_modify, h]
set_option maxRecDepth 100000 in
set_option maxHeartbeats 1600000 in
theorem move_ab (h : Ab W p) (i k n : Int) : Calls Try.prog 23 #[.pointer p, .int .i64 i, .int .i64 k, .int .u64 n] W (AbP W 1) := by
  have hA := MvN.init W p i k
  have HM := Lib.hid (may_ab (h.below hA.b) (some ⟨W.heap.size + 1 + 1 + 1, 0, none⟩) 2 2)
  have HA := Lib.hid hA
  obtain ⟨x0, _⟩ := one hA.j
  obtain ⟨x1, _⟩ := one hA.i
  obtain ⟨x2, y2⟩ := one hA.e
  have hmf : ∀ (fn : Fn) (first cap : Array Value) (w : World), (Instr.makeFunc fn first cap).run Try.prog w = .ok (.func fn first cap) w := fun _ _ _ _ => rfl
  clear h hA
  go_enter_defers Try.func23, Try.ntmps23
  go_wp2_with fail
  refine HM.out.mono ?_
  rintro e w' ⟨rfl, rfl⟩
  generalize (((W.alloc (.cells #[.pointer p] 22)).alloc (.cells #[.int .i64 i] 3)).alloc (.cells #[.int .i64 0] 23)).alloc (.cells #[.int .i64 i, .int .i64 k] 3) = w1 at *
  go_wp2_with fail
  have hz := (one (heap1_setN HA.out.e (.int .i64 1))).1
  refine ⟨.int .i64 1, by simp [results, Try.results23, go_sem, hz], ?_⟩
  exact ⟨rfl, HA.out.b.setCell (by simp; try omega) _⟩
set_option maxRecDepth 100000 in
set_option maxHeartbeats 3200000 in
theorem does_ab (h : Ab W p) (kind i k n : Int) (hk : 0 ≤ kind) (hk8 : kind < 8) :
    Calls Try.prog 31 #[.pointer p, .agg #[.int .i64 kind, .int .i64 i, .int .i64 k, .int .u64 n]] W (AbP W 1) := by
  have hb := (Below.refl W.heap.size W).alloc (Nat.le_refl _) (.cells #[.int .i64 kind, .int .i64 i, .int .i64 k, .int .u64 n] 50)
  have h1 := h.below hb
  have HB := Lib.hid hb
  by_cases c0 : kind = 0
  · subst c0
    have HC := Lib.hid (set_ab h1 i n)
    clear h h1 hb
    go_enter Try.func31, Try.ntmps31
    go_wp2_with fail
    refine HC.out.mono ?_
    rintro e w' ⟨rfl, hj⟩
    have HJ := Lib.hid (HB.out.trans (hj.mono HB.out.size))
    clear hj
    go_wp2_with fail
    go_ret
    exact ⟨rfl, HJ.out⟩
  by_cases c1 : kind = 1
  · subst c1
    have HC := Lib.hid (add_ab h1 i n)
    clear h h1 hb
    go_enter Try.func31, Try.ntmps31
    go_wp2_with fail
    refine HC.out.mono ?_
    rintro e w' ⟨rfl, hj⟩
    have HJ := Lib.hid (HB.out.trans (hj.mono HB.out.size))
    clear hj
    go_wp2_with fail
    go_ret
    exact ⟨rfl, HJ.out⟩
  by_cases c2 : kind = 2
  · subst c2
    have HC := Lib.hid (sub_ab h1 i n)
    clear h h1 hb
    go_enter Try.func31, Try.ntmps31
    go_wp2_with fail
    refine HC.out.mono ?_
    rintro e w' ⟨rfl, hj⟩
    have HJ := Lib.hid (HB.out.trans (hj.mono HB.out.size))
    clear hj
    go_wp2_with fail
    go_ret
    exact ⟨rfl, HJ.out⟩
  by_cases c3 : kind = 3
  · subst c3
    have HC := Lib.hid (move_ab h1 i k n)
    clear h h1 hb
    go_enter Try.func31, Try.ntmps31
    go_wp2_with fail
    refine HC.out.mono ?_
    rintro e w' ⟨rfl, hj⟩
    have HJ := Lib.hid (HB.out.trans (hj.mono HB.out.size))
    clear hj
    go_wp2_with fail
    go_ret
    exact ⟨rfl, HJ.out⟩
  by_cases c4 : kind = 4
  · subst c4
    have HC := Lib.hid (begin_ab h1)
    clear h h1 hb
    go_enter Try.func31, Try.ntmps31
    go_wp2_with fail
    refine HC.out.mono ?_
    rintro e w' ⟨rfl, rfl⟩
    go_wp2_with fail
    go_ret
    exact ⟨rfl, HB.out⟩
  by_cases c5 : kind = 5
  · subst c5
    have HC := Lib.hid (keep_ab h1)
    clear h h1 hb
    go_enter Try.func31, Try.ntmps31
    go_wp2_with fail
    refine HC.out.mono ?_
    rintro e w' ⟨rfl, hj⟩
    have HJ := Lib.hid (HB.out.trans (hj.mono HB.out.size))
    clear hj
    go_wp2_with fail
    go_ret
    exact ⟨rfl, HJ.out⟩
  by_cases c6 : kind = 6
  · subst c6
    have HC := Lib.hid (undo_ab h1)
    clear h h1 hb
    go_enter Try.func31, Try.ntmps31
    go_wp2_with fail
    refine HC.out.mono ?_
    rintro e w' ⟨rfl, hj⟩
    have HJ := Lib.hid (HB.out.trans (hj.mono HB.out.size))
    clear hj
    go_wp2_with fail
    go_ret
    exact ⟨rfl, HJ.out⟩
  by_cases c7 : kind = 7
  · subst c7
    have HC := Lib.hid (back_ab h1 i)
    clear h h1 hb
    go_enter Try.func31, Try.ntmps31
    go_wp2_with fail
    refine HC.out.mono ?_
    rintro e w' ⟨rfl, hj⟩
    have HJ := Lib.hid (HB.out.trans (hj.mono HB.out.size))
    clear hj
    go_wp2_with fail
    go_ret
    exact ⟨rfl, HJ.out⟩
  omega
end
end Go.Proofs.Ytkpfnonacebmkaa
