/- errs, news, reads; a variable that holds a bank. -/
import Derived.Test.YtjiffflhedekfaaMv4
import Derived.Test.YtjiffflhedekfaaRdM
import Derived.Test.YtjiffflhedekfaaBty
import Derived.Test.YtjiffflhedekfaaAwk
import Derived.Test.YtjiffflhedekfaaHav
namespace Go.Proofs.Ytjiffflhedekfaa
open Go.RowKit

/-- A variable holds a bank, its accounts in memory of the call's own. -/
structure Var (w W : World) (b : Nat) (B : Bk) (ao : Option Addr) (c : Nat) : Prop where
  hb : W.heap[b]? = some (.cells #[.slice ao B.L.length c, .int .u64 B.p0, .int .u64 B.p1, .int .u64 B.p2, .int .u64 B.p3] 26 (0, 0))
  own : OwnW W w.heap.size ao c B.L
theorem Var.step {w W W' : World} {b : Nat} {B : Bk} {ao : Option Addr} {c : Nat} (h : Var w W b B ao c) (hb : Below W.heap.size W W') : Var w W' b B ao c :=
  ⟨(hb.block _ (lt_of_block h.hb)).trans h.hb, h.own.below hb⟩

set_option maxHeartbeats 1000000 in
theorem errs_yes (ao : Option Addr) (B : Bk) (c : Nat) (k f t n want : Int) (w : World) (hB : Rd w ao B.L) (hw : B.Wf) (nB : B.L.length ≤ 9223372036854775807) (hn : W64 n) (h : doesR B k f t n = (B0, want)) :
    Calls Try.prog 33 #[.agg #[.slice ao B.L.length c, .int .u64 B.p0, .int .u64 B.p1, .int .u64 B.p2, .int .u64 B.p3], .agg #[.int .i64 k, .int .i64 f, .int .i64 t, .int .u64 n], .int .i64 want] w
      fun e w' => e = .returned (.bool true) ∧ Below w.heap.size w w' := by
  have C1 := Lib.hid (fun W (h : Below w.heap.size w W) => does_any ao B c k f t n W (hB.below h) hw nB hn)
  rw [h] at C1
  clear hB hw hn h nB
  go_enter Try.func33, Try.ntmps33
  go_wp2_with fail
  refine (C1.out _ (((Below.refl _ _).alloc (Nat.le_refl _) _).alloc (by simp) _)).mono ?_
  rintro e w1 ⟨ax, cx, rfl, hown, hb⟩
  have HB := Lib.hid ((((Below.refl w.heap.size w).alloc (Nat.le_refl _) _).alloc (by simp) _).trans (hb.mono (by simp; omega)))
  have HO := Lib.hid hown
  clear hown hb C1
  simp only [B0, List.length_nil] at HO ⊢
  go_wp2_with fail
  refine (sameBank_any ax none B0 B0 cx 0 _ (HO.out.rd.alloc _) (Rd.nil _ _) (by simp [B0]) (by simp [B0])).mono ?_
  rintro e w2 ⟨rfl, hb⟩
  have HC := Lib.hid (HB.out.trans (((Below.refl w1.heap.size w1).alloc (Nat.le_refl _) _).trans (hb.mono (by simp)) |>.mono HB.out.size))
  rw [show decide (B0 = B0) = true by simp]
  clear hb
  go_wp2_with fail
  go_ret
  exact ⟨rfl, HC.out⟩

set_option maxHeartbeats 1000000 in
theorem news_any (ao : Option Addr) (l : List Int) (c : Nat) (w : World) (hl : Rd w ao l) (hw : Ws l) (nl : l.length * 8 ≤ 140737488355328) :
    Calls Try.prog 36 #[.slice ao l.length c] w fun e w' => e = .returned (.int .i64 (newR l).2) ∧ Below w.heap.size w w' := by
  have C1 := Lib.hid (new_any ao l c w hl hw nl)
  generalize newR l = R at *
  obtain ⟨⟨L, p0, p1, p2, p3⟩, er⟩ := R
  clear hl hw nl
  go_enter Try.func36, Try.ntmps36
  go_wp2_with fail
  refine C1.out.mono ?_
  rintro e w1 ⟨ax, cx, rfl, hown, hb⟩
  have HB := Lib.hid hb
  clear hown hb C1
  dsimp only at *
  go_wp2_with fail
  go_ret
  exact ⟨rfl, HB.out.alloc HB.out.size _⟩

set_option maxHeartbeats 1000000 in
theorem reads_any (ao : Option Addr) (raw : List Int) (c : Nat) (w : World) (hl : Rb w ao raw) (bl : Bs raw) (nl : raw.length ≤ 140737488355328) :
    Calls Try.prog 37 #[.slice ao raw.length c] w fun e w' => e = .returned (.agg #[.int .i64 (readR raw).2.1, .int .i64 (readR raw).2.2]) ∧ Below w.heap.size w w' := by
  have C1 := Lib.hid (fun W (h : Below w.heap.size w W) => read_any ao raw c W (hl.below h) bl nl)
  generalize readR raw = R at *
  obtain ⟨⟨L, p0, p1, p2, p3⟩, er, ea⟩ := R
  clear hl bl nl
  go_enter Try.func37, Try.ntmps37
  go_wp2_with fail
  refine (C1.out _ ((Below.refl _ _).alloc (Nat.le_refl _) _)).mono ?_
  rintro e w1 ⟨la, cap, rfl, hown, hb⟩
  have hs1 : w.heap.size + 1 ≤ w1.heap.size := by have := hb.size; simpa using this
  have hlt : w.heap.size < w1.heap.size := by omega
  have hlt' : w.heap.size < w1.heap.size + 1 := by omega
  obtain ⟨e0, e1, f0, f1⟩ := two ((hb.block w.heap.size (by simp)).trans (heap_at w (.cells #[.int .i64 0, .int .i64 0] 49) rfl))
  have HB := Lib.hid (((Below.refl w.heap.size w).alloc (Nat.le_refl _) _).trans (hb.mono (by simp)))
  clear hown hb C1
  dsimp only at *
  go_wp2_with fail
  refine bodyPost_ret (v := .agg #[.int .i64 er, .int .i64 ea]) (by simp [results, Try.results37, go_sem, e0, e1, hlt, hlt']) rfl ?_
  exact ⟨rfl, ((((HB.out.setCell (p := ⟨w.heap.size, 0, none⟩) (Nat.le_refl _) _).setCell (p := ⟨w.heap.size, 1, none⟩) (Nat.le_refl _) _).alloc (by simp [World.setCell]; omega) _).alloc (by simp [World.setCell]; omega) _)⟩

end Go.Proofs.Ytjiffflhedekfaa
