/- The reference's Bytes. -/
import Derived.Test.YtjiffflhedekfaaRp1
import Derived.Test.YtjiffflhedekfaaBts
import Derived.Test.YtjiffflhedekfaaCh2
import Derived.Test.YtjiffflhedekfaaRdM
import Derived.Test.YtjiffflhedekfaaBmp
namespace Go.Proofs.Ytjiffflhedekfaa
open Go.RowKit

set_option maxRecDepth 100000 in
theorem refBytes_no (ao : Option Addr) (B : Bk) (c : Nat) (w : World) (hB : Rd w ao B.L) (hw : B.Wf) (nB : B.L.length ≤ 9223372036854775807) (hc : B.chk ≠ 0) :
    Calls Try.prog 27 #[.agg #[.slice ao B.L.length c, .int .u64 B.p0, .int .u64 B.p1, .int .u64 B.p2, .int .u64 B.p3]] w
      fun e w' => e = .returned (.tuple #[.slice none 0 0, .int .i64 B.chk]) ∧ Below w.heap.size w w' := by
  have C1 := Lib.hid (fun W (h : Below w.heap.size w W) => refCheck_any ao B c W (hB.below h) hw nB)
  have hq : (B.chk == 0) = false := by rw [beq_eq_false_iff_ne]; exact hc
  have hq' : (B.chk != 0) = true := by simpa using hc
  generalize B.chk = ch at *
  clear hB hw hc
  go_enter Try.func27, Try.ntmps27
  go_wp2_with fail
  refine (C1.out _ ((Below.refl _ _).alloc (Nat.le_refl _) _)).mono ?_
  rintro e w1 ⟨rfl, hb⟩
  have HB := Lib.hid (((Below.refl _ _).alloc (Nat.le_refl _) _).trans (hb.mono (by simp)))
  clear hb
  go_wp2_with fail
  go_ret2
  exact ⟨rfl, HB.out⟩

/-- How memory stands in the loop: the row of the bank's words, what has been written. -/
structure Bq (w wr : World) (aa : Option Addr) (ca : Nat) (m : List Int) (g cap : Nat) (l : List Int) : Prop where
  below : Below w.heap.size w wr
  own : OwnY wr w.heap.size (some ⟨g, 0, none⟩) cap l
  row : OwnW wr w.heap.size aa ca m
section
variable {w wr : World} {aa : Option Addr} {ca : Nat} {m l : List Int} {g cap : Nat}
theorem Bq.step (h : Bq w wr aa ca m g cap l) {w' : World} (hb : Below wr.heap.size wr w') : Bq w w' aa ca m g cap l :=
  ⟨h.below.trans (hb.mono h.below.size), h.own.below hb, h.row.below hb⟩
theorem Bq.app (h : Bq w wr aa ca m g cap l) {w' : World} {g' cap' : Nat} {l' : List Int} (hown : OwnY w' w.heap.size (some ⟨g', 0, none⟩) cap' l') (hgrow : wr.grownBy w' (some g)) : Bq w w' aa ca m g' cap' l' := by
  have hgl := (h.own.low _ rfl).1
  refine ⟨h.below.grown hgrow h.below.size (fun k e => by cases e; exact hgl), hown, h.row.grown hgrow (fun k e => by
    cases e
    rcases h.own.2 with ⟨h1, _⟩ | ⟨g0, _, cur, h1, _, h3, _⟩
    · simp at h1
    · simp only [Value.slice.injEq, Option.some.injEq, Addr.mk.injEq, true_and, and_true] at h1
      rw [← h1.1] at h3
      exact ⟨_, _, _, h3, by decide⟩)⟩
end
def InQ (w : World) (aa : Option Addr) (ca : Nat) (pre m : List Int) (v i : Value) (wr : World) : Prop :=
  ∃ (k g cap : Nat), k ≤ m.length ∧ i = .int .i64 k ∧ v = .slice (some ⟨g, 0, none⟩) (pre ++ putA (m.take k)).length cap ∧ Bq w wr aa ca m g cap (pre ++ putA (m.take k))

set_option maxRecDepth 100000 in
set_option maxHeartbeats 1600000 in
theorem refBytes_yes (ao : Option Addr) (B : Bk) (c : Nat) (w : World) (hB : Rd w ao B.L) (hw : B.Wf) (hc : B.chk = 0) :
    Calls Try.prog 27 #[.agg #[.slice ao B.L.length c, .int .u64 B.p0, .int .u64 B.p1, .int .u64 B.p2, .int .u64 B.p3]] w
      fun e w' => ∃ g cap, e = .returned (.tuple #[.slice (some ⟨g, 0, none⟩) (bytesL B).length cap, .int .i64 0]) ∧ OwnY w' w.heap.size (some ⟨g, 0, none⟩) cap (bytesL B) ∧ Below w.heap.size w w' := by
  have nB := (chk_tot hc).2.1
  have C1 := Lib.hid (fun W (h : Below w.heap.size w W) => refCheck_any ao B c W (hB.below h) hw (by omega))
  have C2 := Lib.hid (fun W (h : Below w.heap.size w W) => all_any ao B c W (hB.below h) (by omega))
  rw [hc] at C1
  have HW := Lib.hid hw.all
  have hm : B.all.length ≤ 68 := by simp [Bk.all]; omega
  have HX := Lib.hid (show bytesL B = putL B.L.length ++ putA B.all from rfl)
  clear hB hw hc
  go_enter Try.func27, Try.ntmps27
  go_wp2_with fail
  refine (C1.out _ ((Below.refl _ _).alloc (Nat.le_refl _) _)).mono ?_
  rintro e w1 ⟨rfl, hb⟩
  have hs1 : w.heap.size + 1 ≤ w1.heap.size := by have := hb.size; simpa using this
  have k0 := (hb.block w.heap.size (by simp)).trans (heap_at w (.cells #[.slice ao B.L.length c, .int .u64 B.p0, .int .u64 B.p1, .int .u64 B.p2, .int .u64 B.p3] 26) rfl)
  have HB1 := Lib.hid (((Below.refl _ _).alloc (Nat.le_refl _) _).trans (hb.mono (by simp)))
  have HK := Lib.hid k0
  obtain ⟨a0, _⟩ := five k0
  clear hb k0 C1
  go_wp2_with fail
  refine (refPut B.L.length _ ⟨by omega, by omega⟩).mono ?_
  rintro e w2 ⟨g, cap, rfl, hown, hb⟩
  have hs2 : w1.heap.size ≤ w2.heap.size := hb.size
  have k0 := (hb.block w.heap.size (by omega)).trans HK.out
  obtain ⟨a0, a1, a2, a3, a4, _⟩ := five k0
  have HB2 := Lib.hid (HB1.out.trans (hb.mono (by omega)))
  have HO := Lib.hid (hown.mono (base' := w.heap.size) (by omega))
  have HL : Hid ((putL B.L.length).length ≤ 10) := Lib.hid (putF_len 9 _)
  clear hb k0 HK hown HB1
  go_wp2_with fail
  refine (C2.out _ HB2.out).mono ?_
  rintro e w3 ⟨aa, ca, rfl, hown, hb⟩
  have hsit := Lib.hid (show Bq w w3 aa ca B.all g cap (putL B.L.length) from ⟨HB2.out.trans (hb.mono HB2.out.size), HO.out.below hb, hown.mono HB2.out.size⟩)
  obtain ⟨i0, hi, hz0, hz1, hz2⟩ := info_parts Try.info5
  clear hb hown HB2 HO a0 a1 a2 a3 a4 C2 hs1 hs2
  generalize putL B.L.length = pre at *
  generalize B.all = m at *
  have hpre := HL.out
  go_wp2_with fail
  go_loopw [5, 7] (InQ w aa ca pre m) (fun _ i _ => m.length - (intOf i).toNat)
  case atStart => exact ⟨0, g, cap, Nat.zero_le _, rfl, by simp [putA], by simpa [putA] using hsit.out⟩
  case round =>
    clear hsit
    obtain ⟨k, g, cap, hk, rfl, rfl, hsit⟩ := hrel
    have hln : (pre ++ putA (m.take k)).length ≤ 1400 := by
      have := putA_len (m.take k)
      have h2 : (m.take k).length ≤ m.length := by rw [List.length_take]; omega
      rw [List.length_append]; omega
    by_cases hlt : k < m.length
    · obtain ⟨pb, po, hpa, hcell⟩ := hsit.row.rd k hlt
      subst hpa
      have hx : W64 (m.getD k 0) := HW.out.at hlt
      have hnx : Hid (pre ++ putA (m.take (k + 1)) = (pre ++ putA (m.take k)) ++ putL (m.getD k 0)) := Lib.hid (by rw [putA_take _ _ hlt, List.append_assoc])
      generalize m.getD k 0 = x at *
      generalize pre ++ putA (m.take k) = out at *
      have HS := Lib.hid hsit
      clear hsit
      go_wp2_with fail
      refine (refPut x _ hx).mono ?_
      rintro e w3 ⟨g3, cap3, rfl, hown3, hb3⟩
      have HS3 := Lib.hid (HS.out.step hb3)
      have HO3 := Lib.hid (OwnY.rb (ao := some ⟨g3, 0, none⟩) hown3)
      have hpx : (putL x).length ≤ 10 := putF_len 9 x
      have hz3 : w.heap.size ≤ w3.heap.size := HS3.out.below.size
      clear hown3 hb3 hcell hx HS
      go_wp2_with (at_builtin; refine wpList_append_src rfl (.tmp 26) (.tmp 31) 43 rfl w.heap.size 5 i0 (.int .u8 0) 1 Try.underlying43 hi hz0 hz1 hz2 rfl (.slice (some ⟨g, 0, none⟩) out.length cap) out.length (out.map (Value.int .u8)) rfl HS3.out.own (some ⟨g3, 0, none⟩) cap3 (putL x).length ((putL x).map (Value.int .u8)) (by simp) rfl (rbV_of HO3.out) (oneY_cells _) (by simp only [maxLen]; omega) (by omega) hz3 ?_; intro v1 w4 hown4 hgrow4 hnil4 hloc4)
      rw [← List.map_append, ← List.length_append] at hown4
      obtain ⟨_, ao4, cap4, rfl, hown⟩ := ownY_shape hown4
      have hex : ∃ g4, ao4 = some ⟨g4, 0, none⟩ := by
        rcases hown.2 with ⟨h1, _⟩ | ⟨g4, _, _, h1, _⟩
        · have := hnil4.1 h1; simp at this
        · simp only [Value.slice.injEq, true_and] at h1; exact ⟨g4, h1.1⟩
      obtain ⟨g4, hg4⟩ := hex
      subst hg4
      have HS4 := Lib.hid (HS3.out.app hown hgrow4)
      clear hown hown4 hgrow4 hnil4 hloc4 HS3 HO3
      obtain ⟨n4, hn4⟩ : ∃ n4, (out ++ putL x).length = n4 := ⟨_, rfl⟩
      rw [hn4]
      have HN4 := Lib.hid hn4
      clear hn4
      go_wp2_with fail
      go_roundw
      case rel => exact ⟨k + 1, g4, cap4, hlt, by go_num, by rw [hnx.out, HN4.out], by rw [hnx.out]; exact HS4.out⟩
      case measure => simp [intOf]; omega
    · have hkk : k = m.length := by omega
      have ht : Hid (pre ++ putA (m.take k) = bytesL B) := Lib.hid (by rw [hkk, List.take_of_length_le (by simp), HX.out])
      generalize pre ++ putA (m.take k) = out at *
      have HS := Lib.hid hsit
      clear hsit hkk
      go_wp2_with fail
      go_ret2
      rw [← ht.out]
      exact ⟨g, cap, rfl, HS.out.own, HS.out.below⟩
end Go.Proofs.Ytjiffflhedekfaa
