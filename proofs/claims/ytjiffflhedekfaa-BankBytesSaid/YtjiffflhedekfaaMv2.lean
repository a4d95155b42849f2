/- The walk of bank.moves. -/
import Derived.Test.YtjiffflhedekfaaPl2
namespace Go.Proofs.Ytjiffflhedekfaa
open Go.RowKit

theorem one_set5 {w : World} {b k : Nat} {v : Value} {t : TypeId} (hk : k ≠ b) (h : w.heap[k]? = some (.cells #[v] t (0, 0))) (v0 v1 v2 v3 v4 : Value) : (set5 w b v0 v1 v2 v3 v4).heap[k]? = some (.cells #[v] t (0, 0)) := by
  rw [heap_set5_other w hk]; exact h

theorem call48 (args : Array Value) (w : World) : (callFunc 48 args).run Try.prog w = .ok (.enter 48 args) w := by kernel_rfl
theorem call111 (args : Array Value) (w : World) : (callFunc 111 args).run Try.prog w = .ok (.enter 111 args) w := by kernel_rfl
theorem callPl (p : Pl) (args : Array Value) (w : World) : (callFunc p.fn args).run Try.prog w = .ok (.enter p.fn args) w := by
  cases hb : p.isPool with
  | true => simp [Pl.fn, hb]
  | false => simp [Pl.fn, hb]
/-- Behind the deferred closure of a move that is refused. -/
theorem Sit.door {w W : World} {g cap : Nat} {B : Bk} {er : Int} (h : Sit w W g cap B er) :
    (set5 W (w.heap.size + 1) (.slice none 0 0) (.int .u64 0) (.int .u64 0) (.int .u64 0) (.int .u64 0)).heap[w.heap.size + 1]? = some (.cells #[.slice none 0 0, .int .u64 0, .int .u64 0, .int .u64 0, .int .u64 0] 26 (0, 0)) ∧
    (set5 W (w.heap.size + 1) (.slice none 0 0) (.int .u64 0) (.int .u64 0) (.int .u64 0) (.int .u64 0)).heap[w.heap.size + 1 + 1]? = some (.cells #[.int .i64 er] 30 (0, 0)) ∧
    Below w.heap.size w (set5 W (w.heap.size + 1) (.slice none 0 0) (.int .u64 0) (.int .u64 0) (.int .u64 0) (.int .u64 0)) :=
  ⟨heap_set5 h.mem.out _ _ _ _ _, one_set5 (by omega) h.err _ _ _ _ _, below_set5 h.bel (by omega) _ _ _ _ _⟩

set_option maxRecDepth 100000 in
set_option maxHeartbeats 3200000 in
theorem moves_any (ao : Option Addr) (B : Bk) (c : Nat) (f t : Pl) (n : Int) (bar : Bool) (w : World) (hB : Rd w ao B.L) (hw : B.Wf) (nB : B.L.length ≤ 9223372036854775807) (hn : W64 n) :
    Calls Try.prog 67 #[.agg #[.slice ao B.L.length c, .int .u64 B.p0, .int .u64 B.p1, .int .u64 B.p2, .int .u64 B.p3], .iface f.ty (.int .i64 f.i), .iface t.ty (.int .i64 t.i), .int .u64 n, .bool bar] w
      fun e w' => Res w w' e (moveR B f t n bar) := by
  have HK := Lib.hid (fun W h => check_any ao B c W h hw nB)
  have HB := Lib.hid hB
  clear hB
  have hmf : ∀ (fn : Fn) (first cap : Array Value) (w : World), (Instr.makeFunc fn first cap).run Try.prog w = .ok (.func fn first cap) w := fun _ _ _ _ => rfl
  have hm1 := meth f
  have hm2 := meth t
  have hcf1 := callPl f
  have hcf2 := callPl t
  go_enter_defers Try.func67, Try.ntmps67
  go_wp2_with fail
  refine (HK.out _ (((HB.out.alloc _).alloc _).alloc _)).mono ?_
  rintro e w1 ⟨rfl, hb⟩
  have hs1 : w.heap.size + 3 ≤ w1.heap.size := by have := hb.size; simpa using this
  have he : w1.heap[w.heap.size + 2]? = some (.cells #[.int .i64 0] 30 (0, 0)) := (hb.block _ (by simp)).trans (heap_at _ _ (by simp))
  have ho : w1.heap[w.heap.size + 1]? = some (.cells #[.slice none 0 0, .int .u64 0, .int .u64 0, .int .u64 0, .int .u64 0] 26 (0, 0)) := (hb.block _ (by simp)).trans ((heap_old _ _ (by simp)).trans (heap_at (w.alloc _) _ (by simp)))
  have hx : w1.heap[w.heap.size]? = some (.cells #[.slice ao B.L.length c, .int .u64 B.p0, .int .u64 B.p1, .int .u64 B.p2, .int .u64 B.p3] 26 (0, 0)) := (hb.block _ (by simp; omega)).trans ((heap_old _ _ (by simp; omega)).trans ((heap_old _ _ (by simp)).trans (heap_at w _ rfl)))
  have HBL1 := Lib.hid ((((((Below.refl w.heap.size w).alloc (Nat.le_refl _) _).alloc (by simp) _).alloc (by simp; omega) _)).trans (hb.mono (by simp; omega)))
  have hec := cell_of_one he
  have hef := free_of_one he
  obtain ⟨a0, a1, a2, a3, a4, _⟩ := five hx
  have HE := Lib.hid he
  have HO := Lib.hid ho
  clear he ho hx hb
  by_cases hk : B.chk = 0
  · have hv := chk_zero hk
    rw [hk]
    have HV := Lib.hid hv
    have HK0 := Lib.hid hk
    have HRB := Lib.hid (HB.out.below HBL1.out)
    clear hk hv
    go_wp2_with fail
    refine (clone_any ao B c _ (by exact HB.out.below (HBL1.out.setCell (by simp; omega) _)) (by have := HV.out.2.1; omega)).mono ?_
    rintro e w2 ⟨ao', cap, rfl, hown, hb⟩
    obtain ⟨g, rfl, hg1, hg2⟩ := hown.some HV.out.1
    have S2 := Lib.hid (show Sit w (set5 w2 (w.heap.size + 1) (.slice (some ⟨g, 0, none⟩) B.L.length cap) (.int .u64 B.p0) (.int .u64 B.p1) (.int .u64 B.p2) (.int .u64 B.p3)) g cap B 0 from by
      have hsz : (w1.setCell ⟨w.heap.size + 1 + 1, 0, none⟩ (.int .i64 0)).heap.size = w1.heap.size := by simp [World.setCell]
      rw [hsz] at hb hown hg1
      refine ⟨⟨heap_set5 ((hb.block _ (by omega)).trans ((Below.heap_setCell _ _ _ _ (by simp)).trans HO.out)) _ _ _ _ _, (hown.set5 (fun p hp => by cases hp; simp; omega) _ _ _ _ _).mono (by omega), by omega⟩,
        one_set5 (by omega) ((hb.block _ (by omega)).trans (one_setCell HE.out)) _ _ _ _ _, below_set5 ((HBL1.out.setCell (by simp; omega) _).trans (hb.mono (by omega))) (by omega) _ _ _ _ _, by omega⟩)
    have ho : w2.heap[w.heap.size + 1]? = some (.cells #[.slice none 0 0, .int .u64 0, .int .u64 0, .int .u64 0, .int .u64 0] 26 (0, 0)) :=
      (hb.block _ (by simp [World.setCell]; omega)).trans ((Below.heap_setCell _ _ _ _ (by simp)).trans HO.out)
    obtain ⟨o0, o1, o2, o3, o4, f0, f1, f2, f3, f4⟩ := five ho
    clear ho hb hown hg1 hg2
    go_wp2_with fail
    by_cases hf : f.err B = 0
    · have HF := Lib.hid hf
      clear hf
      refine (in_yes' f S2.out HF.out nB).mono ?_
      rintro e w3 ⟨rfl, hS3⟩
      have S3 := Lib.hid hS3
      have hec := cell_of_one hS3.err
      have hef := free_of_one hS3.err
      clear hS3
      go_wp2_with fail
      have S3' := Lib.hid (S3.out.setErr 0)
      by_cases ht : t.err B = 0
      · have HT := Lib.hid ht
        clear ht
        refine (in_yes' t S3'.out HT.out nB).mono ?_
        rintro e w4 ⟨rfl, hS4⟩
        have S5 := Lib.hid (hS4.setErr 0)
        have hec := cell_of_one hS4.err
        have hef := free_of_one hS4.err
        clear hS4
        cases bar with
        | true =>
          have HR : Hid (moveR B f t n true = (B0, 2)) := Lib.hid (by unfold moveR; rw [if_neg (by simp [HK0.out]), if_neg (by simp [HF.out]), if_neg (by simp [HT.out]), if_pos rfl])
          have SE := Lib.hid (S5.out.setErr 2)
          go_wp2_with fail
          refine leaves_cons (f := 86) (args := #[.pointer (some ⟨w.heap.size + 1 + 1, 0, none⟩), .pointer (some ⟨w.heap.size + 1, 0, none⟩)]) (by simp) (by simp [go_sem]) ?_
          refine (fin_err (w.heap.size + 1 + 1) (w.heap.size + 1) 2 _ _ _ _ _ .returning _ (by exact SE.out.err) (by decide) (by exact SE.out.mem.out)).mono ?_
          rintro e u' w'' ⟨rfl, rfl, rfl⟩
          obtain ⟨d1, d2, d3⟩ := SE.out.door
          obtain ⟨z0, z1, z2, z3, z4, _⟩ := five d1
          have ze := cell_of_one d2
          refine ⟨.tuple #[.agg #[.slice none 0 0, .int .u64 0, .int .u64 0, .int .u64 0, .int .u64 0], .int .i64 2], by simp [results, Try.results67, go_sem, z0, z1, z2, z3, z4, ze], ?_⟩
          rw [HR.out]
          exact ⟨none, 0, rfl, own_none _ _, d3⟩
        | false =>
          obtain ⟨cA, fA⟩ := S5.out.mem.cell f HF.out
          have hgl := Pl.get_le HF.out hw
          by_cases hp : f.get B < n
          · have HR : Hid (moveR B f t n false = (B0, 13)) := Lib.hid (by unfold moveR; rw [if_neg (by simp [HK0.out]), if_neg (by simp [HF.out]), if_neg (by simp [HT.out]), if_neg (by simp), if_pos hp])
            have SE := Lib.hid (S5.out.setErr 13)
            go_wp2_with fail
            refine leaves_cons (f := 86) (args := #[.pointer (some ⟨w.heap.size + 1 + 1, 0, none⟩), .pointer (some ⟨w.heap.size + 1, 0, none⟩)]) (by simp) (by simp [go_sem]) ?_
            refine (fin_err (w.heap.size + 1 + 1) (w.heap.size + 1) 13 _ _ _ _ _ .returning _ (by exact SE.out.err) (by decide) (by exact SE.out.mem.out)).mono ?_
            rintro e u' w'' ⟨rfl, rfl, rfl⟩
            obtain ⟨d1, d2, d3⟩ := SE.out.door
            obtain ⟨z0, z1, z2, z3, z4, _⟩ := five d1
            have ze := cell_of_one d2
            refine ⟨.tuple #[.agg #[.slice none 0 0, .int .u64 0, .int .u64 0, .int .u64 0, .int .u64 0], .int .i64 13], by simp [results, Try.results67, go_sem, z0, z1, z2, z3, z4, ze], ?_⟩
            rw [HR.out]
            exact ⟨none, 0, rfl, own_none _ _, d3⟩
          · have HR : Hid (moveR B f t n false = (t.set (f.set B (f.get B - n)) (t.get (f.set B (f.get B - n)) + n), 0)) := Lib.hid (by unfold moveR; rw [if_neg (by simp [HK0.out]), if_neg (by simp [HF.out]), if_neg (by simp [HT.out]), if_neg (by simp), if_neg hp])
            obtain ⟨hn0, hn1⟩ := hn
            have hw6 : (f.set B (f.get B - n)).Wf := Pl.wf_set hw ⟨by omega, by have := HV.out.2.2; omega⟩
            have ht6 : t.err (f.set B (f.get B - n)) = 0 := by rw [Pl.err_set]; exact HT.out
            have hgl6 := Pl.get_le ht6 hw6
            rw [Pl.tot_set HF.out] at hgl6
            have S6 := Lib.hid (S5.out.set f HF.out (f.get B - n))
            obtain ⟨cT, fT⟩ := S6.out.mem.cell t ht6
            have S7 := Lib.hid (S6.out.set t ht6 (t.get (f.set B (f.get B - n)) + n))
            have hy1 : t.get (f.set B (f.get B - n)) + n ≤ 18446744073709551615 := by have := HV.out.2.2; omega
            have hy0 := hgl6.1
            have hx0 := hgl.1
            have hx1 : f.get B ≤ 4611686018427387904 := by have := HV.out.2.2; omega
            clear hgl hgl6 hw6 ht6
            generalize t.get (f.set B (f.get B - n)) = y at *
            generalize hC : t.set (f.set B (f.get B - n)) (y + n) = C at *
            generalize f.get B = x at *
            generalize f.addr (w.heap.size + 1) g = AF at *
            generalize t.addr (w.heap.size + 1) g = AT at *
            clear hC
            go_wp2_with fail
            refine leaves_cons (f := 86) (args := #[.pointer (some ⟨w.heap.size + 1 + 1, 0, none⟩), .pointer (some ⟨w.heap.size + 1, 0, none⟩)]) (by simp) (by simp [go_sem]) ?_
            refine (fin_ok (w.heap.size + 1 + 1) (w.heap.size + 1) .returning _ (by exact S7.out.err)).mono ?_
            rintro e u' w'' ⟨rfl, rfl, rfl⟩
            obtain ⟨z0, z1, z2, z3, z4, _⟩ := five S7.out.mem.out
            have ze := cell_of_one S7.out.err
            refine ⟨.tuple #[.agg #[.slice (some ⟨g, 0, none⟩) C.L.length cap, .int .u64 C.p0, .int .u64 C.p1, .int .u64 C.p2, .int .u64 C.p3], .int .i64 0], by simp [results, Try.results67, go_sem, z0, z1, z2, z3, z4, ze], ?_⟩
            rw [HR.out]
            exact ⟨_, cap, rfl, S7.out.mem.own, S7.out.bel⟩
      · have HR : Hid (moveR B f t n bar = (B0, t.err B)) := Lib.hid (by unfold moveR; rw [if_neg (by simp [HK0.out]), if_neg (by simp [HF.out]), if_pos ht])
        have HT := Lib.hid ht
        refine (in_no' t S3'.out ht nB).mono ?_
        rintro e w4 ⟨rfl, hS4⟩
        generalize t.err B = er at *
        have hq : (er != 0) = true := by rw [bne_iff_ne]; exact ht
        have SE := Lib.hid (hS4.setErr er)
        have hec := cell_of_one hS4.err
        have hef := free_of_one hS4.err
        clear hS4 ht
        go_wp2_with fail
        refine leaves_cons (f := 86) (args := #[.pointer (some ⟨w.heap.size + 1 + 1, 0, none⟩), .pointer (some ⟨w.heap.size + 1, 0, none⟩)]) (by simp) (by simp [go_sem]) ?_
        refine (fin_err (w.heap.size + 1 + 1) (w.heap.size + 1) er _ _ _ _ _ .returning _ (by exact SE.out.err) HT.out (by exact SE.out.mem.out)).mono ?_
        rintro e u' w'' ⟨rfl, rfl, rfl⟩
        obtain ⟨d1, d2, d3⟩ := SE.out.door
        obtain ⟨z0, z1, z2, z3, z4, _⟩ := five d1
        have ze := cell_of_one d2
        refine ⟨.tuple #[.agg #[.slice none 0 0, .int .u64 0, .int .u64 0, .int .u64 0, .int .u64 0], .int .i64 er], by simp [results, Try.results67, go_sem, z0, z1, z2, z3, z4, ze], ?_⟩
        rw [HR.out]
        exact ⟨none, 0, rfl, own_none _ _, d3⟩
    · have HR : Hid (moveR B f t n bar = (B0, f.err B)) := Lib.hid (by unfold moveR; rw [if_neg (by simp [HK0.out]), if_pos hf])
      have HF := Lib.hid hf
      refine (in_no' f S2.out hf nB).mono ?_
      rintro e w3 ⟨rfl, hS3⟩
      generalize f.err B = er at *
      have hq : (er != 0) = true := by rw [bne_iff_ne]; exact hf
      have SE := Lib.hid (hS3.setErr er)
      have hec := cell_of_one hS3.err
      have hef := free_of_one hS3.err
      clear hS3 hf
      go_wp2_with fail
      refine leaves_cons (f := 86) (args := #[.pointer (some ⟨w.heap.size + 1 + 1, 0, none⟩), .pointer (some ⟨w.heap.size + 1, 0, none⟩)]) (by simp) (by simp [go_sem]) ?_
      refine (fin_err (w.heap.size + 1 + 1) (w.heap.size + 1) er _ _ _ _ _ .returning _ (by exact SE.out.err) HF.out (by exact SE.out.mem.out)).mono ?_
      rintro e u' w'' ⟨rfl, rfl, rfl⟩
      obtain ⟨d1, d2, d3⟩ := SE.out.door
      obtain ⟨z0, z1, z2, z3, z4, _⟩ := five d1
      have ze := cell_of_one d2
      refine ⟨.tuple #[.agg #[.slice none 0 0, .int .u64 0, .int .u64 0, .int .u64 0, .int .u64 0], .int .i64 er], by simp [results, Try.results67, go_sem, z0, z1, z2, z3, z4, ze], ?_⟩
      rw [HR.out]
      exact ⟨none, 0, rfl, own_none _ _, d3⟩
  · have HR : Hid (moveR B f t n bar = (B0, B.chk)) := Lib.hid (if_pos hk)
    generalize B.chk = er at *
    have hq : (er != 0) = true := by rw [bne_iff_ne]; exact hk
    have HQ := Lib.hid hk
    clear hk hm1 hm2
    go_wp2_with fail
    refine leaves_cons (f := 86) (args := #[.pointer (some ⟨w.heap.size + 2, 0, none⟩), .pointer (some ⟨w.heap.size + 1, 0, none⟩)]) (by simp) (by simp [go_sem]) ?_
    refine (fin_err (w.heap.size + 2) (w.heap.size + 1) er _ _ _ _ _ .returning _ (by exact one_setCell HE.out) HQ.out (by exact (Below.heap_setCell _ _ _ _ (by simp)).trans HO.out)).mono ?_
    rintro e u' w'' ⟨rfl, rfl, rfl⟩
    obtain ⟨z0, z1, z2, z3, z4, _⟩ := five (heap_set5 ((Below.heap_setCell w1 ⟨w.heap.size + 2, 0, none⟩ (.int .i64 er) (w.heap.size + 1) (by simp)).trans HO.out) (.slice none 0 0) (.int .u64 0) (.int .u64 0) (.int .u64 0) (.int .u64 0))
    have hze := cell_of_one (one_set5 (b := w.heap.size + 1) (by omega) (one_setCell (u := .int .i64 er) HE.out) (.slice none 0 0) (.int .u64 0) (.int .u64 0) (.int .u64 0) (.int .u64 0))
    refine ⟨.tuple #[.agg #[.slice none 0 0, .int .u64 0, .int .u64 0, .int .u64 0, .int .u64 0], .int .i64 er], by simp [results, Try.results67, go_sem, z0, z1, z2, z3, z4, hze], ?_⟩
    rw [HR.out]
    exact ⟨none, 0, rfl, own_none _ _, below_set5 (HBL1.out.setCell (by simp; omega) _) (by omega) _ _ _ _ _⟩
end Go.Proofs.Ytjiffflhedekfaa
