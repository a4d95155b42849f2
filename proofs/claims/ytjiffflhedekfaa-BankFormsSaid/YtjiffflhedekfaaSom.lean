/- distraintlaw09.some. -/
import Derived.Test.YtjiffflhedekfaaKn0
namespace Go.Proofs.Ytjiffflhedekfaa
open Go.RowKit

structure SoSit (w W : World) (b2 : Nat) (ao : Option Addr) (cap : Nat) (l : List Int) : Prop where
  below : Below w.heap.size w W
  lo : w.heap.size ≤ b2
  h2 : W.heap[b2]? = some (.cells #[.slice none 0 0, .int .u64 0, .int .u64 0, .int .u64 0, .int .u64 0] 26 (0, 0))
  own : OwnW W w.heap.size ao cap l
theorem map_typed {W : World} {base : Nat} {ao : Option Addr} {cap : Nat} {l : List Int} (h : OwnW W base ao cap l) : ∀ q, ao.map (·.block) = some q → (∃ cs m, W.heap[q]? = some (.cells cs 23 m)) ∧ base ≤ q := fun q hq => by
  cases hl : ao with
  | none => rw [hl] at hq; cases hq
  | some p => rw [hl] at hq; simp at hq; subst hq; exact ⟨h.typed p hl, h.low p hl⟩
theorem SoSit.app {w W W' : World} {b2 : Nat} {ao : Option Addr} {cap : Nat} {l : List Int} (h : SoSit w W b2 ao cap l) {o : Obj} {n cp : Nat} (hgrow : (W.alloc o).grownBy W' (Value.slice ao n cp).ownBlock) {ao' : Option Addr} {cap' : Nat} {m : List Int} (hown : OwnW W' w.heap.size ao' cap' m) : SoSit w W' b2 ao' cap' m := by
  rw [own_block'] at hgrow
  have hg : W.grownBy W' (ao.map (·.block)) := grown_trans (World.grownBy_alloc W o _) hgrow
  have hty := map_typed h.own
  exact ⟨h.below.grown hg h.below.size (fun k e => (hty k e).2), h.lo, (hg.block _ (lt_of_block h.h2) (fun e => by obtain ⟨⟨cs, m, hm⟩, _⟩ := hty _ e.symm; exact ne_of_types h.h2 hm (by decide) rfl)).trans h.h2, hown⟩
def SoI (w : World) (b2 len : Nat) (v i : Value) (W : World) : Prop :=
  ∃ (k : Nat) (l : List Int) (ao : Option Addr) (cap : Nat), k ≤ len ∧ k ≤ 8 ∧ i = .int .i64 k ∧ v = .slice ao k cap ∧ l.length = k ∧ Ws l ∧ SoSit w W b2 ao cap l
/-- A bank that may be is told. -/
def SomeP (w : World) (e : Ending) (w' : World) : Prop :=
  ∃ (B : Bk) (ao : Option Addr) (c : Nat), e = .returned (.agg #[.slice ao B.L.length c, .int .u64 B.p0, .int .u64 B.p1, .int .u64 B.p2, .int .u64 B.p3]) ∧ OwnW w' w.heap.size ao c B.L ∧ Below w.heap.size w w' ∧ B.Wf ∧ B.chk = 0 ∧ B.L.length ≤ 8

theorem k64' (k : Nat) (h : k < 18446744073709551616) : W64 k := ⟨by omega, by omega⟩
theorem n_thousand : newR [1000, 1000] = (⟨[1000, 1000], 0, 0, 0, 0⟩, 0) ∧ (⟨[1000, 1000], 0, 0, 0, 0⟩ : Bk).chk = 0 := by decide

set_option maxRecDepth 100000 in
set_option maxHeartbeats 4000000 in
theorem some_any (ao0 : Option Addr) (l0 : List Int) (c0 : Nat) (w : World) (hl0 : Rd w ao0 l0) (hw0 : Ws l0) (nl0 : l0.length ≤ 9223372036854775807) :
    Calls Try.prog 38 #[.slice ao0 l0.length c0] w (SomeP w) := by
  have HL := Lib.hid hl0
  have HW := Lib.hid hw0
  have C1 := Lib.hid (fun ao l c W (h : Rd W ao l) (hw : Ws l) (hn : l.length ≤ 8) => new_any ao l c W h hw (by omega))
  clear hl0 hw0
  obtain ⟨b2, hb2⟩ : ∃ b2, b2 = w.heap.size := ⟨_, rfl⟩
  have hs := Lib.hid (⟨(Below.refl _ _).alloc (Nat.le_refl _) _, by rw [hb2]; exact Nat.le_refl _, by rw [hb2]; exact heap_at w _ rfl, own_none _ _⟩ : SoSit w (w.alloc (.cells #[.slice none 0 0, .int .u64 0, .int .u64 0, .int .u64 0, .int .u64 0] 26)) b2 none 0 [])
  have HB2 := Lib.hid hb2
  clear hb2
  obtain ⟨i0, hi, hz0, hz1, hz2⟩ := info_parts Try.info23
  go_enter Try.func38, Try.ntmps38
  go_wp2_with fail
  rw [← HB2.out]
  go_loopw [3, 4] (SoI w b2 l0.length) (fun _ i _ => 8 - (intOf i).toNat)
  case atStart => exact ⟨0, [], none, 0, Nat.zero_le _, by omega, rfl, rfl, rfl, Ws.nil, hs.out⟩
  case round =>
    clear hs
    obtain ⟨k, l, ao, cap, hk, hk8, rfl, rfl, hll, hws, hsit⟩ := hrel
    by_cases hlt : k < l0.length ∧ k < 8
    · obtain ⟨hlt1, hlt2⟩ := hlt
      obtain ⟨b, o, rfl, hc⟩ := (HL.out.below hsit.below) k hlt1
      have hx := HW.out.at hlt1
      generalize l0.getD k 0 = x at *
      obtain ⟨x0, x1⟩ := hx
      have hy : W64 (x % 1099511627776) := ⟨by omega, by omega⟩
      have HS := Lib.hid hsit
      have HLL := Lib.hid hll
      have HWS := Lib.hid (hws.append (Ws.cons hy Ws.nil))
      have hz := hsit.below.size
      have hown : Hid (wr.ownsRow w.heap.size 23 1 (.slice ao k cap) k (l.map (Value.int .u64))) := Lib.hid (by have := hsit.own; unfold OwnW at this; rw [hll] at this; exact this)
      clear hsit hll hws hy
      go_wp2_with (at_builtin; refine wpList_append_src rfl (.tmp 17) (.tmp 23) 22 rfl w.heap.size 23 i0 (.int .u64 0) 8 Try.underlying22 hi hz0 hz1 hz2 rfl (.slice ao k cap) k (l.map (Value.int .u64)) rfl (World.ownsRow.alloc hown.out _) (some ⟨wr.heap.size, 0, none⟩) 1 1 [.int .u64 (x % 1099511627776)] rfl rfl (rdV_one _ _ _) (by simp [Value.oneCell']) (by simp only [maxLen]; omega) (by omega) (by simp; omega) ?_; intro v1 w4 hown4 hgrow4 hnil4 hloc4)
      have hown' : v1 = v1 ∧ wr.heap.size = wr.heap.size := ⟨rfl, rfl⟩
      rw [show l.map (Value.int .u64) ++ [Value.int .u64 (x % 1099511627776)] = (l ++ [x % 1099511627776]).map (Value.int .u64) by simp] at hown4
      obtain ⟨hn4, ao4, cap4, rfl, hown5⟩ := own_shape hown4
      have HS4 := Lib.hid (HS.out.app hgrow4 hown5)
      have hln : (l ++ [x % 1099511627776]).length = k + 1 := by simp [HLL.out]
      have HLN := Lib.hid hln
      rw [hln]
      clear hown4 hgrow4 hnil4 hloc4 hown5 hown' hn4 hln
      go_wp2_with fail
      go_roundw
      case rel => exact ⟨k + 1, l ++ [x % 1099511627776], ao4, cap4, by omega, by omega, by go_num, rfl, HLN.out, HWS.out, HS4.out⟩
      case measure => simp [intOf]; omega
    · have hfin : ¬ (k < l0.length ∧ k < 8) := hlt
      have HS := Lib.hid hsit
      have HWS := Lib.hid hws
      have HC := Lib.hid (C1.out ao l cap wr hsit.own.rd hws (by omega))
      rw [hll] at HC
      have HLL := Lib.hid hll
      have hor : l0.length ≤ k ∨ (k < l0.length ∧ 8 ≤ k) := by omega
      clear hsit hll hws hlt hfin
      have HZ := Lib.hid (fun (w5 : World) (hb : Below wr.heap.size wr w5) => (hb.block b2 (lt_of_block HS.out.h2)).trans HS.out.h2)
      by_cases hchk : (⟨l, 0, 0, 0, 0⟩ : Bk).chk = 0
      · have HN : Hid (newR l = (⟨l, 0, 0, 0, 0⟩, 0)) := Lib.hid (by unfold newR; rw [if_pos hchk])
        rw [HN.out] at HC
        have HK := Lib.hid hchk
        clear hchk
        rcases hor with h1 | ⟨h1, h2⟩
        all_goals
          go_wp2_with fail
          refine HC.out.mono ?_
          rintro e w5 ⟨ax, cx, rfl, hown, hb⟩
          obtain ⟨y0, y1, y2, y3, y4, g0, g1, g2, g3, g4⟩ := five (HZ.out w5 hb)
          have hlt5 : b2 < w5.heap.size := lt_of_block (HZ.out w5 hb)
          have hln := HLL.out
          simp only at hown ⊢
          have HO := Lib.hid hown
          have HB := Lib.hid (HS.out.below.trans (hb.mono HS.out.below.size))
          clear hown hb hln
          go_wp2_with fail
          refine bodyPost_ret (v := .agg #[.slice ax l.length cx, .int .u64 0, .int .u64 0, .int .u64 0, .int .u64 0]) (by simp [results, Try.results38, go_sem, y0, y1, y2, y3, y4, hlt5]) rfl ?_
          refine ⟨⟨l, 0, 0, 0, 0⟩, ax, cx, rfl, ?_, ?_, wf_new (HWS.out), HK.out, by have := HLL.out; simp only; omega⟩
          · refine OwnW.alloc (OwnW.mono (OwnW.set5 HO.out (b := b2) (fun p hp => ?_) _ _ _ _ _) HS.out.below.size) _
            have := HO.out.low p hp
            have := lt_of_block HS.out.h2
            omega
          · exact (below_set5 HB.out HS.out.lo _ _ _ _ _).alloc (by rw [size_set5]; have := HS.out.lo; omega) _
      · have HN : Hid (newR l = (B0, (⟨l, 0, 0, 0, 0⟩ : Bk).chk)) := Lib.hid (by unfold newR; rw [if_neg hchk])
        rw [HN.out] at HC
        have hq : ((⟨l, 0, 0, 0, 0⟩ : Bk).chk == 0) = false := by rw [beq_eq_false_iff_ne]; exact hchk
        have hq' : ((⟨l, 0, 0, 0, 0⟩ : Bk).chk != 0) = true := by simpa using hchk
        clear hchk
        generalize (⟨l, 0, 0, 0, 0⟩ : Bk).chk = er at *
        rcases hor with h1 | ⟨h1, h2⟩
        all_goals
          go_wp2_with fail
          refine HC.out.mono ?_
          rintro e w5 ⟨ax, cx, rfl, hown, hb⟩
          simp only [B0, List.length_nil] at hown ⊢
          have HZ5 := Lib.hid (HZ.out w5 hb)
          have HB := Lib.hid (HS.out.below.trans (hb.mono HS.out.below.size))
          have hlt5 : b2 < w5.heap.size := lt_of_block HZ5.out
          have hsz : w.heap.size ≤ w5.heap.size := HB.out.size
          clear hown hb
          go_wp2_with fail
          have hal : Below w5.heap.size w5 ((w5.alloc (.cells #[.slice ax 0 cx, .int .u64 0, .int .u64 0, .int .u64 0, .int .u64 0] 26)).alloc (.cells #[.int .u64 1000, .int .u64 1000] 23)) := ((Below.refl _ _).alloc (Nat.le_refl _) _).alloc (by simp) _
          refine (C1.out _ [1000, 1000] 2 _ (rd_two (heap_at _ _ (by simp))) (ws_two (k64' 1000 (by omega)) (k64' 1000 (by omega))) (by simp)).mono ?_
          rintro e w6 ⟨ay, cy, rfl, hown, hb⟩
          simp only [n_thousand.1] at hown ⊢
          have hb6 := hal.trans (hb.mono (by simp; omega))
          have k5 := (hb.block w5.heap.size (by simp; omega)).trans ((heap_old _ _ (by simp)).trans (heap_at w5 (.cells #[.slice ax 0 cx, .int .u64 0, .int .u64 0, .int .u64 0, .int .u64 0] 26) rfl))
          obtain ⟨x0, x1, x2, x3, x4, f0, f1, f2, f3, f4⟩ := five k5
          obtain ⟨y0, y1, y2, y3, y4, g0, g1, g2, g3, g4⟩ := five ((hb6.block b2 hlt5).trans HZ5.out)
          have hs6 := hb6.size
          have hne : w5.heap.size ≠ b2 := by omega
          have hne' : b2 ≠ w5.heap.size := by omega
          have HO := Lib.hid (hown.mono (base' := w5.heap.size + 1) (by simp))
          have HB6 := Lib.hid (HB.out.trans (hb6.mono hsz))
          clear hown hb hb6 hal k5
          go_wp2_with fail
          refine bodyPost_ret (v := .agg #[.slice ay 2 cy, .int .u64 0, .int .u64 0, .int .u64 0, .int .u64 0]) (by simp [results, Try.results38, go_sem, y0, y1, y2, y3, y4, hne, hne']) rfl ?_
          refine ⟨⟨[1000, 1000], 0, 0, 0, 0⟩, ay, cy, rfl, ?_, ?_, wf_new (ws_two (k64' 1000 (by omega)) (k64' 1000 (by omega))), n_thousand.2, by simp⟩
          · refine OwnW.mono (OwnW.set5 (OwnW.set5 HO.out (b := w5.heap.size) (fun p hp => ?_) _ _ _ _ _) (b := b2) (fun p hp => ?_) _ _ _ _ _) (by omega)
            · have := HO.out.low p hp; omega
            · have := HO.out.low p hp; omega
          · exact below_set5 (below_set5 HB6.out (by omega) _ _ _ _ _) HS.out.lo _ _ _ _ _
end Go.Proofs.Ytjiffflhedekfaa
