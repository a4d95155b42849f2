/- distraintlaw10.alike. -/
import Derived.Test.YtkpfnonacebmkaaPr
namespace Go.Proofs.Ytkpfnonacebmkaa
open Go.RowKit

section
variable {W w w' : World} {rj rk : Nat} {J : JS} {K : KS}
theorem Pr.getj (h : Pr W rj rk J K w) (i : Int) : Calls Try.prog 27 #[.pointer (some ⟨rj, 0, none⟩), .int .i64 i] w fun e w' => e = .returned (.tuple #[.int .u64 (K.get i).1, .int .i64 (K.get i).2]) ∧ Below w.heap.size w w' := by
  obtain ⟨M, F, hj⟩ := h.jn
  rw [← h.jk.get i]
  exact get_any hj i
theorem Pr.getk (h : Pr W rj rk J K w) (i : Int) : Calls Try.prog 44 #[.pointer (some ⟨rk, 0, none⟩), .int .i64 i] w fun e w' => e = .returned (.tuple #[.int .u64 (K.get i).1, .int .i64 (K.get i).2]) ∧ w = w' := by
  obtain ⟨F, hk⟩ := h.kn
  exact kGet_any hk i
theorem Pr.cellsj (h : Pr W rj rk J K w) : Calls Try.prog 26 #[.pointer (some ⟨rj, 0, none⟩)] w fun e w' => ∃ ao cap, e = .returned (.slice ao K.C.length cap) ∧ OwnW w' w.heap.size ao cap K.C ∧ Below w.heap.size w w' := by
  obtain ⟨M, F, hj⟩ := h.jn
  rw [← h.jk.c]
  exact cells_any hj
theorem Pr.cellsk (h : Pr W rj rk J K w) : Calls Try.prog 46 #[.pointer (some ⟨rk, 0, none⟩)] w fun e w' => ∃ ao cap, e = .returned (.slice ao K.C.length cap) ∧ OwnW w' w.heap.size ao cap K.C ∧ Below w.heap.size w w' := by
  obtain ⟨F, hk⟩ := h.kn
  exact kCells_any hk
theorem Pr.touchedj (h : Pr W rj rk J K w) : Calls Try.prog 32 #[.pointer (some ⟨rj, 0, none⟩)] w fun e w' => ∃ ao cap, e = .returned (.slice ao K.touched.length cap) ∧ OwnI w' w.heap.size ao cap K.touched ∧ Below w.heap.size w w' := by
  obtain ⟨M, F, hj⟩ := h.jn
  rw [← h.jk.touched]
  exact touched_any hj
theorem Pr.touchedk (h : Pr W rj rk J K w) (ht : K.tot ≤ 1000000) : Calls Try.prog 48 #[.pointer (some ⟨rk, 0, none⟩)] w fun e w' => ∃ ao cap, e = .returned (.slice ao K.touched.length cap) ∧ OwnI w' w.heap.size ao cap K.touched ∧ Below w.heap.size w w' := by
  obtain ⟨F, hk⟩ := h.kn
  exact kTouched_any hk ht
theorem Pr.depthj (h : Pr W rj rk J K w) : Calls Try.prog 24 #[.pointer (some ⟨rj, 0, none⟩)] w fun e w' => e = .returned (.int .i64 K.L.length) ∧ w = w' := by
  obtain ⟨M, F, hj⟩ := h.jn
  rw [← h.jk.len]
  exact depth_any hj
theorem Pr.depthk (h : Pr W rj rk J K w) : Calls Try.prog 45 #[.pointer (some ⟨rk, 0, none⟩)] w fun e w' => e = .returned (.int .i64 K.L.length) ∧ w = w' := by
  obtain ⟨F, hk⟩ := h.kn
  exact kDepth_any hk
theorem Pr.kok (h : Pr W rj rk J K w) : K.Ok := by
  obtain ⟨F, hk⟩ := h.kn
  exact hk.ok
end

theorem own_below {w w' : World} {base : Nat} {e : TypeId} {size : Nat} {v : Value} {n : Nat} {xs : List Value} (h : w.ownsRow base e size v n xs) (hb : Below w.heap.size w w') : w'.ownsRow base e size v n xs :=
  h.kept (row := none) ⟨hb.os, hb.tape, hb.output, hb.size, fun k hk _ => hb.block k hk⟩ (Classical.em _)
set_option maxHeartbeats 400000 in
theorem overInts_all (ao : Option Addr) (n cap : Nat) (xs : List Value) (base : Nat) (w : World) (hown : w.ownsRow base 3 1 (.slice ao n cap) n xs) (nl : n ≤ 9223372036854775807) (hb : base ≤ w.heap.size) :
    Calls Try.prog 49 #[.slice ao n cap] w fun e w' => e = .returned (.tuple #[]) ∧ Below base w w' := by
  rcases hown.2 with ⟨h1, h0⟩ | ⟨g, cap', cur, h1, h2, _⟩
  · simp only [Value.slice.injEq] at h1
    obtain ⟨rfl, rfl, rfl⟩ := h1
    clear hown h0
    go_enter Try.func49, Try.ntmps49
    go_wp2_with fail
    refine wp_loop_rounds 1 ?_
    rw [rounds_succ]
    go_wp2
    go_end0
    exact ⟨rfl, Below.refl _ _⟩
  · simp only [Value.slice.injEq, true_and] at h1
    obtain ⟨rfl, rfl⟩ := h1
    exact (overInts_any g n cap xs base w hown nl).mono fun e w' ⟨k1, k2⟩ => ⟨k1, (Below.refl base w).grown k2 hb (fun k hk => by cases hk; exact h2)⟩

set_option maxRecDepth 100000 in
set_option maxHeartbeats 3200000 in
theorem alike_any {W w : World} {rj rk : Nat} {J : JS} {K : KS} (h : Pr W rj rk J K w) (i : Int) (ht : K.tot ≤ 1000000) :
    Calls Try.prog 17 #[.pointer (some ⟨rj, 0, none⟩), .pointer (some ⟨rk, 0, none⟩), .int .i64 i] w fun e w' => e = .returned (.bool true) ∧ Below w.heap.size w w' := by
  have H0 := Lib.hid h
  have HT := Lib.hid ht
  have hmost := h.kok.most
  have hpos := h.kok.pos
  have HTl : Hid (K.touched.length ≤ 4096) := Lib.hid (by
    unfold KS.touched
    split
    · simp
    · exact Nat.le_trans (riseK_len _ _) hmost)
  clear h ht
  go_enter Try.func17, Try.ntmps17
  go_wp2_with fail
  refine (H0.out.getj i).mono ?_
  rintro e w1 ⟨rfl, hb⟩
  have H1 := Lib.hid (H0.out.below hb)
  have B1 := Lib.hid hb
  clear hb
  go_wp2_with fail
  refine (H1.out.getk i).mono ?_
  rintro e w1' ⟨rfl, rfl⟩
  generalize K.get i = R
  obtain ⟨va, er⟩ := R
  dsimp only
  go_wp2_with fail
  refine H1.out.cellsj.mono ?_
  rintro e w2 ⟨ao, cap, rfl, ho, hb⟩
  have H2 := Lib.hid (H1.out.below hb)
  have B2 := Lib.hid (B1.out.trans (hb.mono B1.out.size))
  have O2 := Lib.hid ho
  have Z1 := Lib.hid B1.out.size
  clear hb ho
  go_wp2_with fail
  refine H2.out.touchedj.mono ?_
  rintro e w3 ⟨to, tc, rfl, hto, hb⟩
  have H3 := Lib.hid (H2.out.below hb)
  have B3 := Lib.hid (B2.out.trans (hb.mono B2.out.size))
  have ZB3 := Lib.hid hb.size
  have O3 := Lib.hid (own_below O2.out hb)
  have T3 := Lib.hid hto
  have Z2 := Lib.hid B2.out.size
  clear hb hto O2
  go_wp2_with fail
  refine H3.out.depthj.mono ?_
  rintro e w3' ⟨rfl, rfl⟩
  go_wp2_with fail
  refine H3.out.depthk.mono ?_
  rintro e w3' ⟨rfl, rfl⟩
  go_wp2_with fail
  refine H3.out.cellsk.mono ?_
  rintro e w4 ⟨ko, kc, rfl, hko, hb⟩
  have H4 := Lib.hid (H3.out.below hb)
  have B4 := Lib.hid (B3.out.trans (hb.mono B3.out.size))
  have ZB4 := Lib.hid (show w2.heap.size ≤ w4.heap.size from Nat.le_trans ZB3.out hb.size)
  have O4 := Lib.hid (own_below O3.out hb)
  have T4 := Lib.hid (own_below T3.out hb)
  have HS := same_any ao ko K.C K.C cap kc w4 (OwnW.rd (own_below O3.out hb)) hko.rd (by omega) (by omega)
  rw [show decide (K.C = K.C) = true from decide_eq_true rfl] at HS
  have HS := Lib.hid HS
  clear hb hko O3 T3
  go_wp2_with fail
  refine HS.out.mono ?_
  rintro e w5 ⟨rfl, nd, rfl⟩
  have HB5 := below_drewN (Below.refl w4.heap.size w4) nd
  have H5 := Lib.hid (H4.out.below HB5)
  have B5 := Lib.hid (B4.out.trans (HB5.mono B4.out.size))
  have O5 := Lib.hid (own_below O4.out HB5)
  have T5 := Lib.hid (own_below T4.out HB5)
  clear O4 T4
  have ZB5 := Lib.hid (show w2.heap.size ≤ (w4.drewN nd).heap.size from Nat.le_trans ZB4.out HB5.size)
  clear HB5
  generalize w4.drewN nd = w5 at *
  go_wp2_with fail
  refine (H5.out.touchedk HT.out).mono ?_
  rintro e w6 ⟨so, sc, rfl, hso, hb⟩
  have B6 := Lib.hid (B5.out.trans (hb.mono B5.out.size))
  have ZB6 := Lib.hid (show w2.heap.size ≤ w6.heap.size from Nat.le_trans ZB5.out hb.size)
  have O6 := Lib.hid (own_below O5.out hb)
  have T6 := Lib.hid (own_below T5.out hb)
  have HS2 := sameInts_any to so K.touched K.touched tc sc w6 (OwnI.rd (own_below T5.out hb)) hso.rd (by have := HTl.out; omega) (by have := HTl.out; omega)
  rw [show decide (K.touched = K.touched) = true from decide_eq_true rfl] at HS2
  have HS2 := Lib.hid HS2
  clear hb hso O5 T5
  go_wp2_with fail
  refine HS2.out.mono ?_
  rintro e w7 ⟨rfl, nd2, rfl⟩
  have HB7 := below_drewN (Below.refl w6.heap.size w6) nd2
  have B7 := Lib.hid (B6.out.trans (HB7.mono B6.out.size))
  have O7 := Lib.hid (own_below O6.out HB7)
  have T7 := Lib.hid (own_below T6.out HB7)
  clear O6 T6
  have Z7 := Lib.hid (show w2.heap.size ≤ (w6.drewN nd2).heap.size from Nat.le_trans ZB6.out HB7.size)
  clear HB7
  generalize w6.drewN nd2 = w7 at *
  obtain ⟨g, rfl⟩ : ∃ g, ao = some ⟨g, 0, none⟩ := by
    rcases O7.out.2 with ⟨_, h0⟩ | ⟨g, cap', cur, h1, _⟩
    · omega
    · simp only [Value.slice.injEq] at h1; exact ⟨g, h1.1⟩
  generalize hn : K.C.length = n at *
  clear hn
  go_wp2_with fail
  go_loopw [14] (fun q wr => ∃ (k : Nat) (ys : List Value), k ≤ n ∧ q = .int .i64 k ∧ wr.ownsRow w1.heap.size 33 1 (.slice (some ⟨g, 0, none⟩) n cap) n ys ∧ w7.grownBy wr (some g)) (fun q _ => n - (intOf q).toNat)
  case atStart => exact ⟨0, _, Nat.zero_le _, rfl, O7.out, ⟨rfl, rfl, rfl, Nat.le_refl _, fun _ _ _ => rfl⟩⟩
  case round =>
    obtain ⟨k, ys, hk, rfl, ho, hg⟩ := hrel
    have hlen : ys.length = n * 1 := ho.1
    by_cases hlt : k < n
    · have hc := ho.cellAt k (by omega)
      rw [List.getElem?_eq_getElem (by omega)] at hc
      generalize ys[k]'(by omega) = y at hc
      have hf := ho.frozenAt k
      have hst := ho.stored k (.int .u64 77)
      have HS := Lib.hid hst
      have HO := Lib.hid ho
      have HG := Lib.hid hg
      clear hst ho hg hlen
      go_wp2_with fail
      go_roundw
      case rel => exact ⟨k + 1, _, by omega, by go_num, HS.out.1, grownBy_trans HG.out HS.out.2⟩
      case measure => simp [intOf]; omega
    · have hgg : w1.heap.size ≤ g := by
        rcases O7.out.2 with ⟨h1, _⟩ | ⟨g', cap', cur, h1, h2, _⟩
        · simp at h1
        · simp only [Value.slice.injEq, Option.some.injEq, Addr.mk.injEq, and_true, true_and] at h1; rw [h1.1]; exact h2
      have hne : ∀ t, (Value.slice to K.touched.length tc).ownBlock = some t → some t ≠ some g := fun t ht e => by
        cases e
        rcases T7.out.2 with ⟨h1, _⟩ | ⟨g1, cap1, cur1, h1, _, h3, _⟩
        · rw [h1] at ht; simp [Value.ownBlock] at ht
        · rw [h1] at ht
          cases ht
          rcases O7.out.2 with ⟨k1, _⟩ | ⟨g2, cap2, cur2, k1, _, k3, _⟩
          · simp at k1
          · simp only [Value.slice.injEq, Option.some.injEq, Addr.mk.injEq, and_true, true_and] at k1
            obtain ⟨rfl, _⟩ := k1
            exact ne_of_types h3 k3 (by decide) rfl
      have T8 : wr.ownsRow w2.heap.size 3 1 (.slice to K.touched.length tc) K.touched.length (K.touched.map encZ) := T7.out.kept hg (by
        cases hv : (Value.slice to K.touched.length tc).ownBlock with
        | none => exact .inl rfl
        | some t => exact .inr (hne t hv))
      have B8 := Lib.hid (B7.out.grown hg (by have := B7.out.size; exact this) (fun k hk => by cases hk; have := Z1.out; omega))
      have HO8 := overInts_all to K.touched.length tc _ w2.heap.size wr T8 (by have := HTl.out; omega) (by have h1 := B7.out.size; have h2 := hg.size; have h3 := Z7.out; omega)
      have HO8 := Lib.hid HO8
      clear ho hg hlen hne T8
      go_wp2_with fail
      refine HO8.out.mono ?_
      rintro e w9 ⟨rfl, hb⟩
      have B9 := Lib.hid (B8.out.trans (hb.mono Z2.out))
      clear hb
      go_wp2_with fail
      go_ret
      exact ⟨rfl, B9.out⟩
end Go.Proofs.Ytkpfnonacebmkaa
