/- journal: Move. -/
import Derived.Test.YtkpfnonacebmkaaMf
namespace Go.Proofs.Ytkpfnonacebmkaa
open Go.RowKit

/-- Move. -/
def JS.move (J : JS) (i k n : Int) : JS × Int :=
  if inB J.C.length i && inB J.C.length k then
    if i = k then (J, 2) else
    if J.C.getD i.toNat 0 < n then (J, 13) else
    if 18446744073709551615 < J.C.getD k.toNat 0 + n then (J, 12) else
    ((J.put k.toNat (J.C.getD k.toNat 0 + n)).put i.toNat (J.C.getD i.toNat 0 - n), 0)
  else (J, 3)
theorem mayE_two (N : Nat) (i k : Int) : mayE N [i, k] = if inB N i && inB N k then 0 else 3 := by unfold mayE; simp
theorem ri_two (W : World) (i k : Int) : Ri (W.alloc (.cells #[.int .i64 i, .int .i64 k] 3)) (some ⟨W.heap.size, 0, none⟩) [i, k] := fun j hj => by
  have h := two (heap_at W (.cells #[.int .i64 i, .int .i64 k] 3) rfl)
  have : j = 0 ∨ j = 1 := by simp at hj; omega
  rcases this with rfl | rfl
  · exact ⟨W.heap.size, 0, rfl, h.1⟩
  · exact ⟨W.heap.size, 0, rfl, h.2.1⟩

theorem heap1_set {w : World} {b : Nat} {v0 : Value} {t : TypeId} (h : w.heap[b]? = some (.cells #[v0] t (0, 0))) (x : Value) :
    (w.setCell ⟨b, 0, none⟩ x).heap[b]? = some (.cells #[x] t (0, 0)) := by simp [World.setCell, Array.getElem?_modify, h]
/-- The blocks at Move's head. -/
structure MvA (W w1 : World) (r : Nat) (i k : Int) : Prop where
  b : Below W.heap.size W w1
  j : w1.heap[W.heap.size]? = some (.cells #[.pointer (some ⟨r, 0, none⟩)] 22 (0, 0))
  i : w1.heap[W.heap.size + 1]? = some (.cells #[.int .i64 i] 3 (0, 0))
  e : w1.heap[W.heap.size + 1 + 1]? = some (.cells #[.int .i64 0] 23 (0, 0))
  s : w1.heap.size = W.heap.size + 4
theorem MvA.init (W : World) (r : Nat) (i k : Int) : MvA W ((((W.alloc (.cells #[.pointer (some ⟨r, 0, none⟩)] 22)).alloc (.cells #[.int .i64 i] 3)).alloc (.cells #[.int .i64 0] 23)).alloc (.cells #[.int .i64 i, .int .i64 k] 3)) r i k := by
  refine ⟨(((((Below.refl _ _).alloc (Nat.le_refl _) _).alloc (by simp) _).alloc (by simp; try omega) _).alloc (by simp; try omega) _), ?_, ?_, ?_, by simp⟩
  · exact (heap_old _ _ (by simp; try omega)).trans ((heap_old _ _ (by simp; try omega)).trans ((heap_old _ _ (by simp)).trans (heap_at W _ rfl)))
  · exact (heap_old _ _ (by simp; try omega)).trans ((heap_old _ _ (by simp)).trans (heap_at (W.alloc _) _ (by simp)))
  · exact (heap_old _ _ (by simp)).trans (heap_at ((W.alloc _).alloc _) _ (by simp))

theorem set_get {l : List Int} {i : Nat} (hi : i < l.length) (a : Int) : (l.set i a).set i (l.getD i 0) = l := by
  rw [List.set_set, getD_at hi, List.set_getElem_self]
theorem mv_back (J : JS) {i : Nat} (hi : i < J.C.length) (a : Int) : (⟨(J.C.set i a).set i (J.C.getD i 0), J.U, J.L⟩ : JS) = J := by
  rw [set_get hi]
theorem getD_set_ne {l : List Int} {i k : Nat} (h : i ≠ k) (a : Int) : (l.set i a).getD k 0 = l.getD k 0 := by
  simp [List.getD_eq_getElem?_getD, List.getElem?_set_ne h]
theorem getD_set_eq {l : List Int} {i : Nat} (h : i < l.length) (a : Int) : (l.set i a).getD i 0 = a := by
  simp [List.getD_eq_getElem?_getD, List.getElem?_set_self, h]
theorem mv_on (J : JS) {i k : Nat} (hi : i < J.C.length) (hk : k < J.C.length) (hne : i ≠ k) (a b : Int) :
    (⟨((⟨J.C.set i a, J.U, J.L⟩ : JS).put k b).C.set i (J.C.getD i 0), ((⟨J.C.set i a, J.U, J.L⟩ : JS).put k b).U, ((⟨J.C.set i a, J.U, J.L⟩ : JS).put k b).L⟩ : JS) = J.put k b := by
  unfold JS.put
  simp only [getD_set_ne hne]
  congr 1
  rw [List.set_comm _ _ hne.symm, set_get hi]
theorem mv_get (J : JS) {i k : Nat} (hi : i < J.C.length) (hne : i ≠ k) (a b : Int) : ((⟨J.C.set i a, J.U, J.L⟩ : JS).put k b).C.getD i 0 = a := by
  unfold JS.put
  simp only
  rw [getD_set_ne hne.symm, getD_set_eq hi]
section
variable {W : World} {M F : Nat → Prop} {r : Nat} {J : JS}
theorem may_two (h : Jn W M F r J) (i k : Int) (W1 : World) (hb : Below W.heap.size W W1) (s : Nat) (hs : W1.heap.size = s) : Calls Try.prog 52 #[.pointer (some ⟨r, 0, none⟩), .slice (some ⟨s, 0, none⟩) 2 2] (W1.alloc (.cells #[.int .i64 i, .int .i64 k] 3)) fun e w' => e = .returned (.int .i64 (if inB J.C.length i && inB J.C.length k then 0 else 3)) ∧ W1.alloc (.cells #[.int .i64 i, .int .i64 k] 3) = w' := by
  subst hs
  obtain ⟨cb, cc, ps, lv, bs, h⟩ := h
  have h1 := (h.below hb).below ((Below.refl W1.heap.size W1).alloc (Nat.le_refl _) (.cells #[.int .i64 i, .int .i64 k] 3))
  have := may_any h1.hr h.ok.pos (by have := h.ok.most; omega) _ [i, k] 2 (ri_two W1 i k) (by simp)
  rwa [mayE_two] at this

set_option maxRecDepth 100000 in
set_option maxHeartbeats 800000 in
theorem move_any (h : Jn W M F r J) (i k : Int) {n : Int} (hn : W64 n) :
    Calls Try.prog 23 #[.pointer (some ⟨r, 0, none⟩), .int .i64 i, .int .i64 k, .int .u64 n] W fun e w' => e = .returned (.int .i64 (J.move i k n).2) ∧ Jst W M F r w' (J.move i k n).1 := by
  have hb3 : Below W.heap.size W (((W.alloc (.cells #[.pointer (some ⟨r, 0, none⟩)] 22)).alloc (.cells #[.int .i64 i] 3)).alloc (.cells #[.int .i64 0] 23)) := ((((Below.refl _ _).alloc (Nat.le_refl _) _).alloc (by simp) _).alloc (by simp; try omega) _)
  have HM := may_two h i k _ hb3 (W.heap.size + 1 + 1 + 1) (by simp)
  have hA := MvA.init W r i k
  have HA := Lib.hid hA
  obtain ⟨x0, _⟩ := one hA.j
  obtain ⟨x1, _⟩ := one hA.i
  obtain ⟨x2, y2⟩ := one hA.e
  have HH := Lib.hid h
  have hmf : ∀ (fn : Fn) (first cap : Array Value) (w : World), (Instr.makeFunc fn first cap).run Try.prog w = .ok (.func fn first cap) w := fun _ _ _ _ => rfl
  clear hb3 hA
  by_cases hin : (inB J.C.length i && inB J.C.length k) = true
  · rw [if_pos hin] at HM
    have HM := Lib.hid HM
    rw [Bool.and_eq_true] at hin
    obtain ⟨p0, p1⟩ := inB_of hin.1
    obtain ⟨q0, q1⟩ := inB_of hin.2
    have HIn := Lib.hid hin
    obtain ⟨i, rfl⟩ : ∃ i' : Nat, i = i' := ⟨i.toNat, by omega⟩
    obtain ⟨k, rfl⟩ : ∃ k' : Nat, k = k' := ⟨k.toNat, by omega⟩
    have hi : i < J.C.length := by omega
    have hk : k < J.C.length := by omega
    by_cases hik : i = k
    · subst hik
      have HV : Hid (J.move i i n = (J, 2)) := Lib.hid (by unfold JS.move; rw [if_pos (by rw [Bool.and_eq_true]; exact HIn.out), if_pos rfl])
      clear h hn hin
      go_enter_defers Try.func23, Try.ntmps23
      go_wp2_with fail
      refine HM.out.mono ?_
      rintro e w' ⟨rfl, rfl⟩
      generalize (((W.alloc (.cells #[.pointer (some ⟨r, 0, none⟩)] 22)).alloc (.cells #[.int .i64 (i : Int)] 3)).alloc (.cells #[.int .i64 0] 23)).alloc (.cells #[.int .i64 (i : Int), .int .i64 i] 3) = w1 at *
      go_wp2_with fail
      have hz := (one (heap1_set HA.out.e (.int .i64 2))).1
      refine ⟨.int .i64 2, by simp [results, Try.results23, go_sem, hz], ?_⟩
      rw [HV.out]
      exact ⟨rfl, Jst.same HH.out (HA.out.b.setCell (by simp; try omega) _)⟩
    · have hik' : ¬ (i : Int) = (k : Int) := by omega
      have hq : ((i : Int) == (k : Int)) = false := by rw [beq_eq_false_iff_ne]; exact hik'
      have hne : i ≠ k := hik
      obtain ⟨cb, cc, ps, lv, bs, h⟩ := h
      have h1 := h.below HA.out.b
      obtain ⟨a0, a1, a2, f0, f1, f2⟩ := three h1.hr
      obtain ⟨c0, g0⟩ := h1.cells.cell hi
      have hmost := h.ok.most
      have hx := h.ok.ws.at hi
      have hy := h.ok.ws.at hk
      have HJ1 := Lib.hid h1
      have HX : Hid (∃ x, J.C.getD i 0 = x) := Lib.hid ⟨_, rfl⟩
      have HMv : Hid (J.move i k n = if J.C.getD i 0 < n then (J, 13) else if 18446744073709551615 < J.C.getD k 0 + n then (J, 12) else ((J.put k (J.C.getD k 0 + n)).put i (J.C.getD i 0 - n), 0)) := Lib.hid (by unfold JS.move; rw [if_pos (by rw [Bool.and_eq_true]; exact HIn.out), if_neg hik']; rfl)
      have HF := Lib.hid h.fl
      have HI := Lib.hid (And.intro hi hk)
      have HN := Lib.hid hn
      generalize hxx : J.C.getD i 0 = x at *
      have HXX := Lib.hid hxx
      clear h h1 hin hik hik' HX hxx
      by_cases hlt : x < n
      · have HV : Hid (J.move i k n = (J, 13)) := Lib.hid (by rw [HMv.out, if_pos hlt])
        obtain ⟨n0, n1⟩ := hn
        go_enter_defers Try.func23, Try.ntmps23
        go_wp2_with fail
        refine HM.out.mono ?_
        rintro e w' ⟨rfl, rfl⟩
        generalize (((W.alloc (.cells #[.pointer (some ⟨r, 0, none⟩)] 22)).alloc (.cells #[.int .i64 (i : Int)] 3)).alloc (.cells #[.int .i64 0] 23)).alloc (.cells #[.int .i64 (i : Int), .int .i64 k] 3) = w1 at *
        go_wp2_with fail
        go_quiet (fail)
        go_wp2_with fail
        have hz := (one (heap1_set (show (w1.drewN nq).heap[W.heap.size + 1 + 1]? = _ from HA.out.e) (.int .i64 13))).1
        refine ⟨.int .i64 13, by simp [results, Try.results23, go_sem, hz], ?_⟩
        rw [HV.out]
        exact ⟨rfl, Jst.same HH.out ((below_drewN HA.out.b nq).setCell (by simp; try omega) _)⟩
      · have hle : n ≤ x := by omega
        have HX : Hid (W64 x) := Lib.hid hx
        obtain ⟨n0, n1⟩ := hn
        obtain ⟨x0', x1'⟩ := hx
        have hdl : decide (x < n) = false := decide_eq_false hlt
        clear hlt
        go_enter_defers Try.func23, Try.ntmps23
        go_wp2_with fail
        refine HM.out.mono ?_
        rintro e w' ⟨rfl, rfl⟩
        generalize (((W.alloc (.cells #[.pointer (some ⟨r, 0, none⟩)] 22)).alloc (.cells #[.int .i64 (i : Int)] 3)).alloc (.cells #[.int .i64 0] 23)).alloc (.cells #[.int .i64 (i : Int), .int .i64 k] 3) = w0 at *
        go_wp2_with fail
        go_quiet (fail)
        have HA2 := Lib.hid (show MvA W (w0.drewN nq) r i k from ⟨below_drewN HA.out.b nq, HA.out.j, HA.out.i, HA.out.e, HA.out.s⟩)
        have HJ2 := Lib.hid (HJ1.out.below (below_drewN (Below.refl _ w0) nq))
        clear a0 a1 a2 f0 f1 f2 c0 g0 x0 x1 x2 y2 HJ1 HA HM
        go_upto_region 8 with (fail)
        generalize w0.drewN nq = w1 at *
        have HA := HA2
        have HJ1 := HJ2
        clear HA2 HJ2
        have hs1 := HA.out.s
        obtain ⟨a0, a1, a2, f0, f1, f2⟩ := three HJ1.out.hr
        obtain ⟨c0, g0⟩ := HJ1.out.cells.cell HI.out.1
        rw [HXX.out] at c0
        obtain ⟨x0, _⟩ := one HA.out.j
        obtain ⟨x1, _⟩ := one HA.out.i
        obtain ⟨x2, y2⟩ := one HA.out.e
        have hl1 := lt_of_block HJ1.out.hr
        have hl2 := HJ1.out.fl _ (HJ1.out.mf _ HJ1.out.mc)
        have hl3 := lt_of_block HA.out.j
        have hl4 := lt_of_block HA.out.i
        have HS1 := Lib.hid hs1
        clear hs1
        go_region
        have H2 := Lib.hid ((HJ1.out.below ((Below.refl _ _).alloc (Nat.le_refl _) (.cells #[.int .u64 x] 33))).below ((Below.refl _ _).drew))
        have hB2 : Below w1.heap.size w1 (w1.alloc (.cells #[.int .u64 x] 33)).drew := ((Below.refl _ _).alloc (Nat.le_refl _) _).drew
        have HM2 := Lib.hid (show MvB (w1.alloc (.cells #[.int .u64 x] 33)).drew W.heap.size (W.heap.size + 1) (W.heap.size + 1 + 1) w1.heap.size r i 0 x from
          ⟨(hB2.block _ hl3).trans HA.out.j, (hB2.block _ hl4).trans HA.out.i, (hB2.block _ (lt_of_block HA.out.e)).trans HA.out.e, heap_at w1 _ rfl⟩)
        have HB2 := Lib.hid (HA.out.b.trans (hB2.mono HA.out.b.size))
        have HZ2 := Lib.hid (show (w1.alloc (.cells #[.int .u64 x] 33)).drew.heap.size = w1.heap.size + 1 from by show (w1.alloc _).heap.size = _; simp)
        clear hB2 a0 a1 a2 f0 f1 f2 c0 g0 x0 x1 x2 y2 hl1 hl2 hl3 hl4
        generalize (w1.alloc (.cells #[.int .u64 x] 33)).drew = w2 at *
        obtain ⟨a0, a1, a2, f0, f1, f2⟩ := three H2.out.hr
        obtain ⟨c0, g0⟩ := H2.out.cells.cell HI.out.1
        rw [HXX.out] at c0
        obtain ⟨x0, _⟩ := one HM2.out.j
        obtain ⟨x1, _⟩ := one HM2.out.i
        have hsub : IntKind.u64.wrap (x - n) = x - n := IntWalk.u64_in _ ⟨by omega, by omega⟩
        go_wp2_with fail
        go_still_tail 10, (by kernel_rfl)
        change wpList _ _ _ _ _ w2.drew
        go_upto_region 11 with (fail)
        have hj3 := (H2.out.setC HI.out.1 (show W64 (x - n) from ⟨by omega, by omega⟩)).below ((Below.refl _ _).drew)
        have hnew : ∀ q, W.heap.size ≤ q → ¬ M q := fun q hq hm => by have := HF.out q (H2.out.mf q hm); omega
        have hcb : ∀ q, W.heap.size ≤ q → q ≠ cb := fun q hq e => hnew q hq (e ▸ H2.out.mc)
        have hgs : w2.grownBy (w2.setCell ⟨cb, i, none⟩ (.int .u64 (x - n))) (some cb) := grown_set _
        have HM3 := Lib.hid (show MvB (w2.setCell ⟨cb, i, none⟩ (.int .u64 (x - n))).drew W.heap.size (W.heap.size + 1) (W.heap.size + 1 + 1) w1.heap.size r i 0 x from
          HM2.out.kept fun q hq => Below.heap_setCell _ _ _ _ (hcb q (by have := HS1.out; omega)))
        have HS3 := Lib.hid (show Stp W (w2.setCell ⟨cb, i, none⟩ (.int .u64 (x - n))).drew M M F F from
          ((Stp.of_below M F HB2.out).trans (Stp.of_grown F hgs H2.out.mc)).trans (Stp.of_below M F ((Below.refl _ _).drew)))
        have HZ3 := Lib.hid (show (w2.setCell ⟨cb, i, none⟩ (.int .u64 (x - n))).drew.heap.size = w2.heap.size from by show (w2.setCell _ _).heap.size = _; simp [World.setCell])
        have HJ3 := Lib.hid hj3
        have HNew := Lib.hid hnew
        clear hj3 hnew hcb hgs a0 a1 a2 f0 f1 f2 c0 g0 x0 x1
        generalize (w2.setCell ⟨cb, i, none⟩ (.int .u64 (x - n))).drew = w3 at *
        obtain ⟨x0, _⟩ := one HM3.out.j
        have HAd := Lib.hid (jadd_any (⟨_, _, _, _, _, HJ3.out⟩ : Jn w3 M F r _) k HN.out)
        obtain ⟨x2, y2⟩ := one HM3.out.e
        go_wp2_with fail
        refine HAd.out.mono ?_
        rintro e w4 ⟨rfl, M4, F4, hj4, hst4⟩
        have hz : W.heap.size + 4 + 1 = w3.heap.size := by have := HS1.out; have := HZ2.out; have := HZ3.out; omega
        have hM4 : ∀ q, q = W.heap.size ∨ q = W.heap.size + 1 ∨ q = W.heap.size + 1 + 1 ∨ q = w1.heap.size → ¬ M4 q ∧ ¬ F4 q := fun q hq => by
          have h1 := HS1.out
          refine ⟨fun hm => ?_, fun hm => ?_⟩
          · rcases hst4.mm q hm with h2 | h2
            · exact HNew.out q (by omega) h2
            · omega
          · rcases hst4.ff q hm with h2 | h2
            · have := HF.out q h2; omega
            · omega
        have hm4 : MvB w4 W.heap.size (W.heap.size + 1) (W.heap.size + 1 + 1) w1.heap.size r i 0 x := HM3.out.kept fun q hq => hst4.block q (by have := HS1.out; omega) (HNew.out q (by have := HS1.out; omega))
        have HM4 := Lib.hid hm4
        have HMF4 := Lib.hid hM4
        have HJ4 := Lib.hid hj4
        have HS4 := Lib.hid (HS3.out.trans hst4)
        obtain ⟨x2, y2⟩ := one hm4.e
        have HZ := Lib.hid hz
        clear hj4 hst4 hm4 hM4 hz x0
        have hg1 : (⟨J.C.set i (x - n), J.U, J.L⟩ : JS).chg k n addR = if (addR (J.C.getD k 0) n).2 = 0 then ((⟨J.C.set i (x - n), J.U, J.L⟩ : JS).put k (addR (J.C.getD k 0) n).1, 0) else (⟨J.C.set i (x - n), J.U, J.L⟩, (addR (J.C.getD k 0) n).2) := by
          unfold JS.chg
          simp only [List.length_set, Int.toNat_natCast, getD_set_ne hne]
          rw [if_pos HIn.out.2]
        have HX5 := Lib.hid (fun er : Int => (show Jn (w4.setCell ⟨W.heap.size + 1 + 1, 0, none⟩ (.int .i64 er)) M4 F4 r _ ∧ MvB (w4.setCell ⟨W.heap.size + 1 + 1, 0, none⟩ (.int .i64 er)) W.heap.size (W.heap.size + 1) (W.heap.size + 1 + 1) w1.heap.size r i er x from
          ⟨HJ4.out.kept (by simp [World.setCell]) (fun q hq => Below.heap_setCell _ _ _ _ (fun e => (HMF4.out q (.inr (.inr (.inl e)))).2 hq)),
            (Below.heap_setCell _ _ _ _ (by simp only; omega)).trans HM4.out.j, (Below.heap_setCell _ _ _ _ (by simp only; omega)).trans HM4.out.i, heap1_set HM4.out.e _, (Below.heap_setCell _ _ _ _ (by have := HS1.out; simp only; omega)).trans HM4.out.w⟩))
        have HS5 := Lib.hid (fun er : Int => (show Stp W (w4.setCell ⟨W.heap.size + 1 + 1, 0, none⟩ (.int .i64 er)) M M4 F F4 from
          ⟨HS4.out.os, HS4.out.tape, HS4.out.output, by have := HS4.out.size; simpa [World.setCell] using this, fun q hq hn => (Below.heap_setCell _ _ _ _ (by simp only; omega)).trans (HS4.out.block q hq hn), HS4.out.mm, HS4.out.ff⟩))
        by_cases hov : 18446744073709551615 < J.C.getD k 0 + n
        · have hadd : addR (J.C.getD k 0) n = (0, 12) := by unfold addR; rw [if_pos hov]
          rw [hadd, if_neg (by simp)] at hg1
          have HV : Hid (J.move i k n = (J, 12)) := Lib.hid (by rw [HMv.out, if_neg (by omega), if_pos hov])
          rw [hg1] at HX5 ⊢
          simp only at HX5 ⊢
          clear hg1 hadd hov HJ4 HM4 HS4
          go_wp2_with fail
          refine leaves_cons (f := 53) (args := #[.pointer (some ⟨W.heap.size + 1 + 1, 0, none⟩), .pointer (some ⟨w1.heap.size, 0, none⟩), .pointer (some ⟨W.heap.size, 0, none⟩), .pointer (some ⟨W.heap.size + 1, 0, none⟩)]) (by simp) (by simp [go_sem]) ?_
          refine (mfin_err (HX5.out 12).1 (by simpa using HI.out.1) (HX5.out 12).2 HX.out (by decide) .returning).mono ?_
          rintro e u' w6 ⟨rfl, rfl, hj6, hst6⟩
          have hze := (one ((hst6.block (W.heap.size + 1 + 1) (lt_of_block (HX5.out 12).2.e) (HMF4.out _ (.inr (.inr (.inl rfl)))).1).trans (HX5.out 12).2.e)).1
          refine ⟨.int .i64 12, by simp [results, Try.results23, go_sem, hze], ?_⟩
          rw [HV.out]
          refine ⟨rfl, M4, F4, ?_, (HS5.out 12).trans hst6⟩
          have := mv_back J HI.out.1 (x - n)
          rw [HXX.out] at this
          simp only at hj6
          rwa [this] at hj6
        · have hadd : addR (J.C.getD k 0) n = (J.C.getD k 0 + n, 0) := by unfold addR; rw [if_neg hov]
          rw [hadd, if_pos rfl] at hg1
          have HV : Hid (J.move i k n = ((J.put k (J.C.getD k 0 + n)).put i (x - n), 0)) := Lib.hid (by rw [HMv.out, if_neg (by omega), if_neg hov])
          rw [hg1] at HX5 ⊢
          simp only at HX5 ⊢
          clear hg1 hadd hov HJ4 HM4 HS4
          go_wp2_with fail
          refine leaves_cons (f := 53) (args := #[.pointer (some ⟨W.heap.size + 1 + 1, 0, none⟩), .pointer (some ⟨w1.heap.size, 0, none⟩), .pointer (some ⟨W.heap.size, 0, none⟩), .pointer (some ⟨W.heap.size + 1, 0, none⟩)]) (by simp) (by simp [go_sem]) ?_
          refine (mfin_ok (HX5.out 0).1 (by simpa [JS.put] using HI.out.1) (HX5.out 0).2 HX.out .returning (fun q hq => (HMF4.out q (by rcases hq with rfl | rfl <;> simp)).1)).mono ?_
          rintro e u' w6 ⟨rfl, rfl, M6, F6, hj6, hst6⟩
          have hze := (one ((hst6.block (W.heap.size + 1 + 1) (lt_of_block (HX5.out 0).2.e) (HMF4.out _ (.inr (.inr (.inl rfl)))).1).trans (HX5.out 0).2.e)).1
          refine ⟨.int .i64 0, by simp [results, Try.results23, go_sem, hze], ?_⟩
          rw [HV.out]
          refine ⟨rfl, M6, F6, ?_, (HS5.out 0).trans hst6⟩
          have h1 := mv_on J HI.out.1 HI.out.2 hne (x - n) (J.C.getD k 0 + n)
          have h2 := mv_get J HI.out.1 hne (x - n) (J.C.getD k 0 + n)
          rw [HXX.out] at h1
          rw [h2, h1] at hj6
          exact hj6
  · rw [if_neg hin] at HM
    have HM := Lib.hid HM
    have HV : Hid (J.move i k n = (J, 3)) := Lib.hid (by unfold JS.move; rw [if_neg hin])
    clear h hn hin
    go_enter_defers Try.func23, Try.ntmps23
    go_wp2_with fail
    refine HM.out.mono ?_
    rintro e w' ⟨rfl, rfl⟩
    generalize (((W.alloc (.cells #[.pointer (some ⟨r, 0, none⟩)] 22)).alloc (.cells #[.int .i64 i] 3)).alloc (.cells #[.int .i64 0] 23)).alloc (.cells #[.int .i64 i, .int .i64 k] 3) = w1 at *
    go_wp2_with fail
    have hz := (one (heap1_set HA.out.e (.int .i64 3))).1
    refine ⟨.int .i64 3, by simp [results, Try.results23, go_sem, hz], ?_⟩
    rw [HV.out]
    exact ⟨rfl, Jst.same HH.out (HA.out.b.setCell (by simp; try omega) _)⟩
end
end Go.Proofs.Ytkpfnonacebmkaa
