/- The walks of whole banks: SameBank, CopyBank, bank.clone. -/
import Derived.Test.YtjiffflhedekfaaCopy
import Derived.Deep.RegionHeld3
import Derived.ChangeKeysEq
import Derived.Laws.StructEq
namespace Go.Proofs.Ytjiffflhedekfaa
open Go.RowKit

/-- A bank: what accounts have, and the four pools. -/
structure Bk where
  L : List Int
  p0 : Int
  p1 : Int
  p2 : Int
  p3 : Int
  deriving DecidableEq

theorem bcell {W w1 : World} (hb : Below W.heap.size W w1) : (∀ b o, b < W.heap.size → w1.cell? ⟨b, o, none⟩ = W.cell? ⟨b, o, none⟩) ∧ (∀ b o, b < W.heap.size → w1.frozen? ⟨b, o, none⟩ = W.frozen? ⟨b, o, none⟩) :=
  ⟨fun b o h => hb.cell (p := ⟨b, o, none⟩) h, fun b o h => hb.frozen (p := ⟨b, o, none⟩) h⟩
theorem below_drewN {B : Nat} {a w : World} (h : Below B a w) (n : Nat) : Below B a (w.drewN n) := ⟨h.os, h.tape, h.output, h.size, h.block⟩
theorem Rd.alloc {w : World} {ao : Option Addr} {l : List Int} (h : Rd w ao l) (o : Obj) : Rd (w.alloc o) ao l := h.below ((Below.refl _ _).alloc (Nat.le_refl _) o)
theorem Rd.drewN {w : World} {ao : Option Addr} {l : List Int} (h : Rd w ao l) (n : Nat) : Rd (w.drewN n) ao l := h

theorem word_eq (d : Nat) (a b : Int) (w : World) : (Op.equalIn (d + 1) 23 (.int .u64 a) (.int .u64 b)).run Try.prog w = .ok (a == b) w := by
  simp [Op.equalIn, run_underlying Try.underlying23]
theorem part0 (x0 x1 x2 x3 : Value) (w : World) : (part 23 #[x0, x1, x2, x3] 0).run Try.prog w = .ok x0 w := by kernel_rfl
theorem part1 (x0 x1 x2 x3 : Value) (w : World) : (part 23 #[x0, x1, x2, x3] 1).run Try.prog w = .ok x1 w := by kernel_rfl
theorem part2 (x0 x1 x2 x3 : Value) (w : World) : (part 23 #[x0, x1, x2, x3] 2).run Try.prog w = .ok x2 w := by kernel_rfl
theorem part3 (x0 x1 x2 x3 : Value) (w : World) : (part 23 #[x0, x1, x2, x3] 3).run Try.prog w = .ok x3 w := by kernel_rfl
theorem Try.cells23 : Try.prog.cellsOf 23 = 1 := by kernel_rfl
theorem item_step (d : Nat) (xs ys : Array Value) (i : Nat) (is : List Nat) (a b : Int) (w : World) (ha : (part 23 xs (i * 1)).run Try.prog w = .ok (.int .u64 a) w) (hb : (part 23 ys (i * 1)).run Try.prog w = .ok (.int .u64 b) w)
    (r : Bool) (h : (Op.eqItems (d + 1) 23 1 xs ys is).run Try.prog w = .ok r w) : (Op.eqItems (d + 1) 23 1 xs ys (i :: is)).run Try.prog w = .ok (a == b && r) w := by
  simp only [Op.eqItems, Sem.run_bind, ha, hb, Result.andThen_ok, word_eq]
  cases a == b
  · simp
  · simpa using h
theorem items_eq (d : Nat) (a0 a1 a2 a3 b0 b1 b2 b3 : Int) (w : World) : (Op.eqItems (d + 1) 23 1 #[.int .u64 a0, .int .u64 a1, .int .u64 a2, .int .u64 a3] #[.int .u64 b0, .int .u64 b1, .int .u64 b2, .int .u64 b3] [0, 1, 2, 3]).run Try.prog w =
    .ok (a0 == b0 && (a1 == b1 && (a2 == b2 && (a3 == b3 && true)))) w :=
  item_step d _ _ 0 _ _ _ w (part0 _ _ _ _ w) (part0 _ _ _ _ w) _ (item_step d _ _ 1 _ _ _ w (part1 _ _ _ _ w) (part1 _ _ _ _ w) _ (item_step d _ _ 2 _ _ _ w (part2 _ _ _ _ w) (part2 _ _ _ _ w) _
    (item_step d _ _ 3 _ _ _ w (part3 _ _ _ _ w) (part3 _ _ _ _ w) _ rfl)))
theorem pools_eq (a0 a1 a2 a3 b0 b1 b2 b3 : Int) (w : World) : (binOp .eql 24 (.agg #[.int .u64 a0, .int .u64 a1, .int .u64 a2, .int .u64 a3]) (.agg #[.int .u64 b0, .int .u64 b1, .int .u64 b2, .int .u64 b3])).run Try.prog w =
    .ok (.bool (a0 == b0 && (a1 == b1 && (a2 == b2 && a3 == b3)))) w := by
  obtain ⟨i0, hi, _⟩ := info_parts Try.info23
  rw [run_eql_struct, run_equalIn_array (P := Try.prog) w 9999 (t := 24) _ _ Try.underlying24 hi, Try.cells23]
  rw [show List.range 4 = [0, 1, 2, 3] from rfl, items_eq 9998]
  simp [Result.andThen]
set_option maxHeartbeats 800000 in
/-- distraintkit.SameBank. -/
theorem sameBank_any (ao bo : Option Addr) (A B : Bk) (c d : Nat) (w : World) (hA : Rd w ao A.L) (hB : Rd w bo B.L) (nA : A.L.length ≤ 9223372036854775807) (nB : B.L.length ≤ 9223372036854775807) :
    Calls Try.prog 13 #[.agg #[.slice ao A.L.length c, .int .u64 A.p0, .int .u64 A.p1, .int .u64 A.p2, .int .u64 A.p3], .agg #[.slice bo B.L.length d, .int .u64 B.p0, .int .u64 B.p1, .int .u64 B.p2, .int .u64 B.p3]] w
      fun e w' => e = .returned (.bool (decide (A = B))) ∧ Below w.heap.size w w' := by
  obtain ⟨L, p0, p1, p2, p3⟩ := A
  obtain ⟨M, q0, q1, q2, q3⟩ := B
  dsimp only at *
  have hpe := pools_eq p0 p1 p2 p3 q0 q1 q2 q3
  by_cases hL : L = M
  · have hd : decide (L = M) = true := by simpa using hL
    have HL := Lib.hid hL
    clear hL
    have hfin : (p0 == q0 && (p1 == q1 && (p2 == q2 && p3 == q3))) = decide ((⟨L, p0, p1, p2, p3⟩ : Bk) = ⟨M, q0, q1, q2, q3⟩) := by
      rw [Bool.eq_iff_iff]; simp [HL.out]
    have HF := Lib.hid hfin
    clear hfin
    go_enter Try.func13, Try.ntmps13
    go_wp2_with fail
    refine (sameWords_any ao bo L M c d _ ((hA.alloc _).alloc _) ((hB.alloc _).alloc _) nA nB).mono ?_; rintro e w' ⟨rfl, n, rfl⟩
    rw [hd]
    clear hd
    go_wp2
    go_ret
    exact ⟨by rw [← HF.out]; rfl, below_drewN (((Below.refl _ _).alloc (Nat.le_refl _) _).alloc (by simp) _) _⟩
  · have hd : decide (L = M) = false := by simpa using hL
    have hfin : decide ((⟨L, p0, p1, p2, p3⟩ : Bk) = ⟨M, q0, q1, q2, q3⟩) = false := by simp [hL]
    have HF := Lib.hid hfin
    clear hfin hL
    go_enter Try.func13, Try.ntmps13
    go_wp2_with fail
    refine (sameWords_any ao bo L M c d _ ((hA.alloc _).alloc _) ((hB.alloc _).alloc _) nA nB).mono ?_; rintro e w' ⟨rfl, n, rfl⟩
    rw [hd]
    clear hd
    go_wp2
    go_ret
    exact ⟨by rw [HF.out]; rfl, below_drewN (((Below.refl _ _).alloc (Nat.le_refl _) _).alloc (by simp) _) _⟩

/-- A block of five cells, known whole. -/
theorem five {w : World} {b : Nat} {v0 v1 v2 v3 v4 : Value} {t : TypeId} (h : w.heap[b]? = some (.cells #[v0, v1, v2, v3, v4] t (0, 0))) :
    w.cell? ⟨b, 0, none⟩ = some v0 ∧ w.cell? ⟨b, 1, none⟩ = some v1 ∧ w.cell? ⟨b, 2, none⟩ = some v2 ∧ w.cell? ⟨b, 3, none⟩ = some v3 ∧ w.cell? ⟨b, 4, none⟩ = some v4 ∧
    w.frozen? ⟨b, 0, none⟩ = false ∧ w.frozen? ⟨b, 1, none⟩ = false ∧ w.frozen? ⟨b, 2, none⟩ = false ∧ w.frozen? ⟨b, 3, none⟩ = false ∧ w.frozen? ⟨b, 4, none⟩ = false := by
  simp [World.cell?, World.frozen?, h]
theorem heap_at (w : World) (o : Obj) {k : Nat} (h : k = w.heap.size) : (w.alloc o).heap[k]? = some o := by subst h; exact heap_alloc_new w o
theorem heap_old (w : World) (o : Obj) {k : Nat} (h : k < w.heap.size) : (w.alloc o).heap[k]? = w.heap[k]? := Below.heap_alloc w o k h

theorem OwnW.mono {w : World} {base base' : Nat} {ao : Option Addr} {cap : Nat} {l : List Int} (h : OwnW w base ao cap l) (hb : base' ≤ base) : OwnW w base' ao cap l :=
  ⟨h.1, h.2.imp id fun ⟨g, cap, cur, h1, h2, r⟩ => ⟨g, cap, cur, h1, Nat.le_trans hb h2, r⟩⟩
theorem OwnW.setCell {w : World} {base : Nat} {ao : Option Addr} {cap : Nat} {l : List Int} (h : OwnW w base ao cap l) {a : Addr} (ha : ∀ p, ao = some p → p.block ≠ a.block) (u : Value) : OwnW (w.setCell a u) base ao cap l :=
  ownsRow_setCell_other h (by cases ao with
    | none => simp [Value.ownBlock]
    | some p => have := ha p rfl; simpa [Value.ownBlock] using this) u
theorem OwnW.low {w : World} {base : Nat} {ao : Option Addr} {cap : Nat} {l : List Int} (h : OwnW w base ao cap l) : ∀ p, ao = some p → base ≤ p.block := fun p hp => by
  subst hp
  rcases h.2 with ⟨h1, _⟩ | ⟨g, cap', cur, h1, hg, _⟩
  · simp at h1
  · simp only [Value.slice.injEq, Option.some.injEq, true_and] at h1
    rw [h1.1]; exact hg

/-- A store of a whole bank into its variable. -/
abbrev set5 (w : World) (b : Nat) (v0 v1 v2 v3 v4 : Value) : World :=
  ((((w.setCell ⟨b, 0, none⟩ v0).setCell ⟨b, 1, none⟩ v1).setCell ⟨b, 2, none⟩ v2).setCell ⟨b, 3, none⟩ v3).setCell ⟨b, 4, none⟩ v4
theorem OwnW.set5 {w : World} {base : Nat} {ao : Option Addr} {cap : Nat} {l : List Int} (h : OwnW w base ao cap l) {b : Nat} (ha : ∀ p, ao = some p → p.block ≠ b) (v0 v1 v2 v3 v4 : Value) : OwnW (set5 w b v0 v1 v2 v3 v4) base ao cap l :=
  ((((h.setCell (a := ⟨b, 0, none⟩) ha v0).setCell (a := ⟨b, 1, none⟩) ha v1).setCell (a := ⟨b, 2, none⟩) ha v2).setCell (a := ⟨b, 3, none⟩) ha v3).setCell (a := ⟨b, 4, none⟩) ha v4
theorem below_set5 {B : Nat} {a w : World} (h : Below B a w) {b : Nat} (hb : B ≤ b) (v0 v1 v2 v3 v4 : Value) : Below B a (set5 w b v0 v1 v2 v3 v4) :=
  ((((h.setCell (p := ⟨b, 0, none⟩) hb v0).setCell (p := ⟨b, 1, none⟩) hb v1).setCell (p := ⟨b, 2, none⟩) hb v2).setCell (p := ⟨b, 3, none⟩) hb v3).setCell (p := ⟨b, 4, none⟩) hb v4
theorem size_set5 (w : World) (b : Nat) (v0 v1 v2 v3 v4 : Value) : (set5 w b v0 v1 v2 v3 v4).heap.size = w.heap.size := by simp [World.setCell]
theorem heap_set5 {w : World} {b : Nat} {u0 u1 u2 u3 u4 : Value} {t : TypeId} (h : w.heap[b]? = some (.cells #[u0, u1, u2, u3, u4] t (0, 0))) (v0 v1 v2 v3 v4 : Value) :
    (set5 w b v0 v1 v2 v3 v4).heap[b]? = some (.cells #[v0, v1, v2, v3, v4] t (0, 0)) := by
  simp [set5, World.setCell, Array.getElem?_modify, h]
theorem heap_set5_other (w : World) {b k : Nat} (hk : k ≠ b) (v0 v1 v2 v3 v4 : Value) : (set5 w b v0 v1 v2 v3 v4).heap[k]? = w.heap[k]? := by
  simp only [set5]
  rw [Below.heap_setCell _ _ _ _ hk, Below.heap_setCell _ _ _ _ hk, Below.heap_setCell _ _ _ _ hk, Below.heap_setCell _ _ _ _ hk, Below.heap_setCell _ _ _ _ hk]

set_option maxHeartbeats 800000 in
/-- distraintkit.CopyBank. -/
theorem copyBank_any (ao : Option Addr) (B : Bk) (c : Nat) (w : World) (hB : Rd w ao B.L) (nB : B.L.length * 8 ≤ 140737488355328) :
    Calls Try.prog 10 #[.agg #[.slice ao B.L.length c, .int .u64 B.p0, .int .u64 B.p1, .int .u64 B.p2, .int .u64 B.p3]] w
      fun e w' => ∃ g cap, e = .returned (.agg #[.slice (some ⟨g, 0, none⟩) B.L.length cap, .int .u64 B.p0, .int .u64 B.p1, .int .u64 B.p2, .int .u64 B.p3]) ∧ OwnW w' w.heap.size (some ⟨g, 0, none⟩) cap B.L ∧ Below w.heap.size w w' := by
  obtain ⟨L, p0, p1, p2, p3⟩ := B
  dsimp only at *
  go_enter Try.func10, Try.ntmps10
  go_wp2_with fail
  go_region_held3 (fun w' => w'.cell? ⟨w.heap.size, 0, none⟩ = some (.slice ao L.length c) ∧ w'.cell? ⟨w.heap.size, 1, none⟩ = some (.int .u64 p0) ∧ w'.cell? ⟨w.heap.size, 2, none⟩ = some (.int .u64 p1) ∧ w'.cell? ⟨w.heap.size, 3, none⟩ = some (.int .u64 p2) ∧ w'.cell? ⟨w.heap.size, 4, none⟩ = some (.int .u64 p3))
    (first | go_keep | (refine ⟨?_, ?_, ?_, ?_, ?_⟩ <;> (rw [hb.cell (by simp; omega)]; simp [go_sem])))
    (first | (go_at_call 43; refine (copyWords_any ao L c _ (by exact (hB.alloc _).alloc _) nB).mono ?_; rintro e w1 ⟨g, cap, rfl, hown, hb⟩; have hk : w1.heap[w.heap.size + 1]? = some (.cells #[.slice none 0 0, .int .u64 0, .int .u64 0, .int .u64 0, .int .u64 0] 26 (0, 0)) := (hb.block _ (by simp)).trans (heap_at (w.alloc (.cells #[.slice ao L.length c, .int .u64 p0, .int .u64 p1, .int .u64 p2, .int .u64 p3] 26)) _ (by simp)); obtain ⟨k0, k1, k2, k3, k4, f0, f1, f2, f3, f4⟩ := five hk))
  have hlow := hown.low
  have hne : ∀ p, some (⟨g, 0, none⟩ : Addr) = some p → p.block ≠ w.heap.size + 1 := fun p hp => by have := hlow p hp; simp at this; omega
  have h5 := ((((hown.setCell (a := ⟨w.heap.size + 1, 0, none⟩) hne (.slice (some ⟨g, 0, none⟩) L.length cap)).setCell (a := ⟨w.heap.size + 1, 1, none⟩) hne (.int .u64 p0)).setCell (a := ⟨w.heap.size + 1, 2, none⟩) hne (.int .u64 p1)).setCell (a := ⟨w.heap.size + 1, 3, none⟩) hne (.int .u64 p2)).setCell (a := ⟨w.heap.size + 1, 4, none⟩) hne (.int .u64 p3)
  have hb0 : Below w.heap.size w w1 := ((((Below.refl _ _).alloc (Nat.le_refl _) _).alloc (by simp) _).drew).trans (hb.mono (by simp; omega))
  have hb5 := ((((hb0.setCell (p := ⟨w.heap.size + 1, 0, none⟩) (by simp) (.slice (some ⟨g, 0, none⟩) L.length cap)).setCell (p := ⟨w.heap.size + 1, 1, none⟩) (by simp) (.int .u64 p0)).setCell (p := ⟨w.heap.size + 1, 2, none⟩) (by simp) (.int .u64 p1)).setCell (p := ⟨w.heap.size + 1, 3, none⟩) (by simp) (.int .u64 p2)).setCell (p := ⟨w.heap.size + 1, 4, none⟩) (by simp) (.int .u64 p3)
  have H5 := Lib.hid h5
  have HB := Lib.hid hb5
  clear h5 hb5 hb0 hne hlow hown hb hB
  go_wp2
  refine bodyPost_ret (v := .agg #[.slice (some ⟨g, 0, none⟩) L.length cap, .int .u64 p0, .int .u64 p1, .int .u64 p2, .int .u64 p3]) (by simp [results, Try.results10, go_sem, k0, k1, k2, k3, k4]) rfl ⟨g, cap, rfl, H5.out.mono (by simp; omega), HB.out⟩

set_option maxHeartbeats 800000 in
/-- bank.clone. -/
theorem clone_any (ao : Option Addr) (B : Bk) (c : Nat) (w : World) (hB : Rd w ao B.L) (nB : B.L.length * 8 ≤ 140737488355328) :
    Calls Try.prog 87 #[.agg #[.slice ao B.L.length c, .int .u64 B.p0, .int .u64 B.p1, .int .u64 B.p2, .int .u64 B.p3]] w
      fun e w' => ∃ ao' cap, e = .returned (.agg #[.slice ao' B.L.length cap, .int .u64 B.p0, .int .u64 B.p1, .int .u64 B.p2, .int .u64 B.p3]) ∧ OwnW w' w.heap.size ao' cap B.L ∧ Below w.heap.size w w' := by
  obtain ⟨L, p0, p1, p2, p3⟩ := B
  dsimp only at *
  go_enter Try.func87, Try.ntmps87
  go_wp2_with fail
  refine (cloneW_any ao L c _ ((hB.alloc _).alloc _) nB).mono ?_
  rintro e w1 ⟨ao', cap, rfl, hown, hb⟩
  have ha : w1.heap[w.heap.size]? = some (.cells #[.slice ao L.length c, .int .u64 p0, .int .u64 p1, .int .u64 p2, .int .u64 p3] 26 (0, 0)) :=
    (hb.block _ (by simp; omega)).trans ((heap_old _ _ (by simp)).trans (heap_at w _ rfl))
  have hk : w1.heap[w.heap.size + 1]? = some (.cells #[.slice none 0 0, .int .u64 0, .int .u64 0, .int .u64 0, .int .u64 0] 26 (0, 0)) := (hb.block _ (by simp)).trans (heap_at (w.alloc _) _ (by simp))
  obtain ⟨a0, a1, a2, a3, a4, g0, g1, g2, g3, g4⟩ := five ha
  obtain ⟨k0, k1, k2, k3, k4, f0, f1, f2, f3, f4⟩ := five hk
  have hb0 : Below w.heap.size w w1 := (((Below.refl _ _).alloc (Nat.le_refl _) _).alloc (by simp) _).trans (hb.mono (by simp; omega))
  have hlow := hown.low
  have hne : ∀ p, ao' = some p → p.block ≠ w.heap.size + 1 := fun p hp => by have := hlow p hp; simp at this; omega
  have hne0 : ∀ p, ao' = some p → p.block ≠ w.heap.size := fun p hp => by have := hlow p hp; simp at this; omega
  have H5 := Lib.hid ((hown.setCell (a := ⟨w.heap.size, 0, none⟩) hne0 (.slice ao' L.length cap)).set5 hne (.slice ao' L.length cap) (.int .u64 p0) (.int .u64 p1) (.int .u64 p2) (.int .u64 p3))
  have HB := Lib.hid (below_set5 (hb0.setCell (p := ⟨w.heap.size, 0, none⟩) (Nat.le_refl _) (.slice ao' L.length cap)) (b := w.heap.size + 1) (by omega) (.slice ao' L.length cap) (.int .u64 p0) (.int .u64 p1) (.int .u64 p2) (.int .u64 p3))
  clear hb0 hne hne0 hlow hown hb hB ha hk
  go_wp2
  refine bodyPost_ret (v := .agg #[.slice ao' L.length cap, .int .u64 p0, .int .u64 p1, .int .u64 p2, .int .u64 p3]) (by simp [results, Try.results87, go_sem, k0, k1, k2, k3, k4]) rfl ⟨ao', cap, rfl, H5.out.mono (by simp; omega), HB.out⟩
end Go.Proofs.Ytjiffflhedekfaa
