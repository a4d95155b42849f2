/- bank.Bytes: the walk. -/
import Derived.Test.YtjiffflhedekfaaBts
import Derived.Test.YtjiffflhedekfaaBmp
namespace Go.Proofs.Ytjiffflhedekfaa
open Go.RowKit

set_option maxRecDepth 100000 in
set_option maxHeartbeats 2000000 in
theorem bytes_no (ao : Option Addr) (B : Bk) (c : Nat) (w : World) (hB : Rd w ao B.L) (hw : B.Wf) (nB : B.L.length ≤ 9223372036854775807) (hc : B.chk ≠ 0) :
    Calls Try.prog 26 #[.agg #[.slice ao B.L.length c, .int .u64 B.p0, .int .u64 B.p1, .int .u64 B.p2, .int .u64 B.p3]] w
      fun e w' => e = .returned (.tuple #[.slice none 0 0, .int .i64 B.chk]) ∧ Below w.heap.size w w' := by
  have C1 := Lib.hid (fun W (h : Below w.heap.size w W) => check_any ao B c W (hB.below h) hw nB)
  have hq : (B.chk == 0) = false := by rw [beq_eq_false_iff_ne]; exact hc
  have hq' : (B.chk != 0) = true := by simpa using hc
  generalize B.chk = ch at *
  clear hB hw hc
  go_enter Try.func26, Try.ntmps26
  go_wp2_with fail
  refine (C1.out _ ((Below.refl _ _).alloc (Nat.le_refl _) _)).mono ?_
  rintro e w1 ⟨rfl, hb⟩
  have HB := Lib.hid (((Below.refl _ _).alloc (Nat.le_refl _) _).trans (hb.mono (by simp)))
  clear hb
  go_wp2_with fail
  go_ret2
  exact ⟨rfl, HB.out⟩

def outJ (B : Bk) : Nat → List Int
  | 0 => putL B.L.length
  | 1 => putL B.L.length ++ putA B.L
  | _ => (putL B.L.length ++ putA B.L) ++ putA [B.p0, B.p1, B.p2, B.p3]
theorem outJ_two (B : Bk) : outJ B 2 = bytesL B := by simp only [outJ, bytesL, Bk.all]; rw [putA_append, List.append_assoc]
theorem outJ_len (B : Bk) (h : B.L.length ≤ 64) (j : Nat) : (outJ B j).length ≤ 700 := by
  have h1 : (putL B.L.length).length ≤ 10 := putF_len 9 B.L.length
  have h2 := putA_len B.L
  have h3 := putA_len [B.p0, B.p1, B.p2, B.p3]
  simp only [List.length_cons, List.length_nil] at h3
  match j with
  | 0 => simp only [outJ]; omega
  | 1 => simp only [outJ, List.length_append]; omega
  | _ + 2 => simp only [outJ, List.length_append]; omega
theorem take_len (m : List Int) (k : Nat) : (putA (m.take k)).length ≤ 10 * m.length := by
  have := putA_len (m.take k)
  have h := List.length_take_le k m
  have h' : (m.take k).length ≤ m.length := by rw [List.length_take]; omega
  omega

/-- How the inner loop stands. -/
def InB (w : World) (b0 bs : Nat) (ao : Option Addr) (c : Nat) (B : Bk) (pre m : List Int) (v i : Value) (wr : World) : Prop :=
  ∃ (k g cap : Nat), k ≤ m.length ∧ i = .int .i64 k ∧ v = .slice (some ⟨g, 0, none⟩) (pre ++ putA (m.take k)).length cap ∧ BySit w wr b0 bs ao c B g cap (pre ++ putA (m.take k))
/-- How the outer loop stands. -/
def OutB (w : World) (b0 bs : Nat) (ao : Option Addr) (c : Nat) (B : Bk) (v i : Value) (wr : World) : Prop :=
  ∃ (j g cap : Nat), j ≤ 2 ∧ i = .int .i64 j ∧ v = .slice (some ⟨g, 0, none⟩) (outJ B j).length cap ∧ BySit w wr b0 bs ao c B g cap (outJ B j)

set_option maxRecDepth 100000 in
set_option maxHeartbeats 4000000 in
theorem bytes_yes (ao : Option Addr) (B : Bk) (c : Nat) (w : World) (hB : Rd w ao B.L) (hw : B.Wf) (hc : B.chk = 0) :
    Calls Try.prog 26 #[.agg #[.slice ao B.L.length c, .int .u64 B.p0, .int .u64 B.p1, .int .u64 B.p2, .int .u64 B.p3]] w
      fun e w' => ∃ g cap, e = .returned (.tuple #[.slice (some ⟨g, 0, none⟩) (bytesL B).length cap, .int .i64 0]) ∧ OwnY w' w.heap.size (some ⟨g, 0, none⟩) cap (bytesL B) ∧ Below w.heap.size w w' := by
  have nB := (chk_tot hc).2.1
  have C1 := Lib.hid (fun W (h : Below w.heap.size w W) => check_any ao B c W (hB.below h) hw (by omega))
  rw [hc] at C1
  have HB := Lib.hid hB
  have HW := Lib.hid hw
  clear hB hw hc
  go_enter Try.func26, Try.ntmps26
  go_wp2_with fail
  refine (C1.out _ ((Below.refl _ _).alloc (Nat.le_refl _) _)).mono ?_
  rintro e w1 ⟨rfl, hb⟩
  have hs1 : w.heap.size + 1 ≤ w1.heap.size := by have := hb.size; simpa using this
  have k0 := (hb.block w.heap.size (by simp)).trans (heap_at w (.cells #[.slice ao B.L.length c, .int .u64 B.p0, .int .u64 B.p1, .int .u64 B.p2, .int .u64 B.p3] 26) rfl)
  have HB1 := Lib.hid (((Below.refl _ _).alloc (Nat.le_refl _) _).trans (hb.mono (by simp)))
  have HK := Lib.hid k0
  obtain ⟨a0, _⟩ := five k0
  clear hb k0 C1
  go_wp2_with fail
  refine (put_any B.L.length ⟨by omega, by omega⟩ _).mono ?_
  rintro e w2 ⟨g, cap, rfl, hown, hb⟩
  have hs2 : w1.heap.size ≤ w2.heap.size := hb.size
  have k0 := (hb.block w.heap.size (by omega)).trans HK.out
  obtain ⟨a0, a1, a2, a3, a4, _⟩ := five k0
  have HB2 := Lib.hid (HB1.out.trans (hb.mono (by omega)))
  have HK2 := Lib.hid k0
  have HO := Lib.hid hown
  have HL := Lib.hid ((putF_len 9 B.L.length : (putL B.L.length).length ≤ 10))
  clear hb k0 HK hown HB1
  go_wp2_with fail
  go_region
  have hsit := Lib.hid (show BySit w (w2.alloc (.cells #[.slice ao B.L.length c, .slice (some ⟨w.heap.size, 1, none⟩) 4 4] 22)).drew w.heap.size w2.heap.size ao c B g cap (putL B.L.length) from
    ⟨(HB2.out.alloc (by omega) _).drew, ⟨Nat.le_refl _, by omega⟩, (heap_old w2 _ (by omega)).trans HK2.out, heap_at w2 _ rfl, OwnY.mono ((show OwnY w2 w1.heap.size (some ⟨g, 0, none⟩) cap _ from HO.out).alloc _) (by omega),
      ⟨by have := (OwnY.low (show OwnY w2 w1.heap.size (some ⟨g, 0, none⟩) cap _ from HO.out) _ rfl).1; simp only at this; omega, by have := (OwnY.low (show OwnY w2 w1.heap.size (some ⟨g, 0, none⟩) cap _ from HO.out) _ rfl).2; simp only at this; omega⟩⟩)
  obtain ⟨i0, hi, hz0, hz1, hz2⟩ := info_parts Try.info5
  generalize (w2.alloc (.cells #[.slice ao B.L.length c, .slice (some ⟨w.heap.size, 1, none⟩) 4 4] 22)).drew = wA at *
  have HPL := Lib.hid (outJ_len B nB)
  clear HB2 HK2 HO HL a0 a1 a2 a3 a4 hs2
  generalize hbs : w2.heap.size = bs at *
  clear hbs
  obtain ⟨b0, hb0⟩ : ∃ b0, b0 = w.heap.size := ⟨_, rfl⟩
  rw [← hb0] at hsit
  have HZ := Lib.hid hb0
  go_wp2_with fail
  rw [← HZ.out]
  clear hb0
  go_loopw [5, 26] (OutB w b0 bs ao c B)
    (fun _ i _ => 2 - (intOf i).toNat)
  case atStart => exact ⟨0, g, cap, by omega, rfl, rfl, hsit.out⟩
  case round =>
    clear hsit
    obtain ⟨j, g, cap, hj, rfl, rfl, hsit⟩ := hrel
    have HP := Lib.hid (HPL.out j)
    obtain ⟨x0, x1, _⟩ := two hsit.hs
    rcases (show j = 0 ∨ j = 1 ∨ j = 2 by omega) with rfl | rfl | rfl
    · have HS := Lib.hid hsit
      clear hsit hj
      go_wp2_with fail
      go_loopw [5, 32] (InB w b0 bs ao c B (outJ B 0) B.L)
        (fun _ i _ => B.L.length - (intOf i).toNat)
      case atStart => exact ⟨0, g, cap, Nat.zero_le _, rfl, by simp [putA], by simpa [putA] using HS.out⟩
      case round =>
        clear x0 x1 HS
        obtain ⟨k, g, cap, hk, rfl, rfl, hsit⟩ := hrel
        try simp only [List.length_cons, List.length_nil] at hk
        have hpl := HP.out
        have htl := take_len B.L k
        have hln : (outJ B 0 ++ putA (B.L.take k)).length ≤ 1400 := by rw [List.length_append]; (try simp only [List.length_cons, List.length_nil] at htl); omega
        clear hpl htl
        by_cases hlt : k < B.L.length
        · obtain ⟨pb, po, hpa, hcell⟩ := (HB.out.below hsit.below) k hlt
          subst hpa
          have hx : W64 (B.L.getD k 0) := HW.out.L.at hlt
          have hnx : Hid (outJ B 0 ++ putA (B.L.take (k + 1)) = (outJ B 0 ++ putA (B.L.take k)) ++ putL (B.L.getD k 0)) := Lib.hid (by rw [putA_take _ _ hlt, List.append_assoc])
          generalize B.L.getD k 0 = x at *
          generalize outJ B 0 ++ putA (B.L.take k) = out at *
          have HS := Lib.hid hsit
          clear hsit
          go_wp2_with fail
          refine (put_any x hx _).mono ?_
          rintro e w3 ⟨g3, cap3, rfl, hown3, hb3⟩
          have HS3 := Lib.hid (HS.out.step hb3)
          have HO3 := Lib.hid (OwnY.rb (ao := some ⟨g3, 0, none⟩) hown3)
          have hpx : (putL x).length ≤ 10 := putF_len 9 x
          have hz3 : w.heap.size ≤ w3.heap.size := HS3.out.below.size
          have hlo3 := (HS3.out.own.low _ rfl).1
          clear hown3 hb3 hcell hx HS
          go_wp2_with (at_builtin; refine wpList_append_src rfl (.tmp 36) (.tmp 38) 43 rfl w.heap.size 5 i0 (.int .u8 0) 1 Try.underlying43 hi hz0 hz1 hz2 rfl (.slice (some ⟨g, 0, none⟩) out.length cap) out.length (out.map (Value.int .u8)) rfl HS3.out.own (some ⟨g3, 0, none⟩) cap3 (putL x).length ((putL x).map (Value.int .u8)) (by simp) rfl (rbV_of HO3.out) (oneY_cells _) (by simp only [maxLen]; omega) (by omega) hz3 ?_; intro v1 w4 hown4 hgrow4 hnil4 hloc4)
          rw [← List.map_append, ← List.length_append] at hown4
          obtain ⟨_, ao4, cap4, rfl, hown⟩ := ownY_shape hown4
          have hex : ∃ g4, ao4 = some ⟨g4, 0, none⟩ := by
            rcases hown.2 with ⟨h1, _⟩ | ⟨g4, _, _, h1, _⟩
            · have := hnil4.1 h1; simp at this
            · simp only [Value.slice.injEq, true_and] at h1; exact ⟨g4, h1.1⟩
          obtain ⟨g4, hg4⟩ := hex
          subst hg4
          have HS4 := Lib.hid (HS3.out.app hown hgrow4 (by simpa [Value.ownBlock] using hloc4))
          clear hown hown4 hgrow4 hnil4 hloc4 HS3 HO3
          obtain ⟨n4, hn4⟩ : ∃ n4, (out ++ putL x).length = n4 := ⟨_, rfl⟩
          rw [hn4]
          have HN4 := Lib.hid hn4
          clear hn4
          go_wp2_with fail
          go_roundw
          case rel => exact ⟨_, _, _, ⟨k + 1, g4, cap4, hlt, by go_num, by rw [hnx.out, HN4.out], by rw [hnx.out]; exact HS4.out⟩, rfl, rfl, rfl⟩
          case measure => simp [intOf]; omega
        · have hkk : k = B.L.length := by omega
          have ht : Hid (outJ B 0 ++ putA (B.L.take k) = outJ B 1) := Lib.hid (by rw [hkk, List.take_of_length_le (by simp)]; rfl)
          generalize outJ B 0 ++ putA (B.L.take k) = out at *
          have HS := Lib.hid hsit
          clear hsit hkk
          go_wp2_with fail
          go_roundw
          case rel => exact ⟨1, g, cap, by omega, by first | rfl | go_num, by rw [← ht.out], by rw [← ht.out]; exact HS.out⟩
          case measure => simp [intOf]
    · have HS := Lib.hid hsit
      clear hsit hj
      go_wp2_with fail
      go_loopw [5, 32] (InB w b0 bs ao c B (outJ B 1) [B.p0, B.p1, B.p2, B.p3])
        (fun _ i _ => 4 - (intOf i).toNat)
      case atStart => exact ⟨0, g, cap, Nat.zero_le _, rfl, by simp [putA], by simpa [putA] using HS.out⟩
      case round =>
        clear x0 x1 HS
        obtain ⟨k, g, cap, hk, rfl, rfl, hsit⟩ := hrel
        try simp only [List.length_cons, List.length_nil] at hk
        have hpl := HP.out
        have htl := take_len [B.p0, B.p1, B.p2, B.p3] k
        have hln : (outJ B 1 ++ putA ([B.p0, B.p1, B.p2, B.p3].take k)).length ≤ 1400 := by rw [List.length_append]; (try simp only [List.length_cons, List.length_nil] at htl); omega
        clear hpl htl
        by_cases hlt : k < 4
        · obtain ⟨pb, po, hpa, hcell⟩ := hsit.rd1 k hlt
          simp only [Option.some.injEq, Addr.mk.injEq, and_true] at hpa; obtain ⟨rfl, rfl⟩ := hpa
          have hx : W64 ([B.p0, B.p1, B.p2, B.p3].getD k 0) := HW.out.pools.at hlt
          have hnx : Hid (outJ B 1 ++ putA ([B.p0, B.p1, B.p2, B.p3].take (k + 1)) = (outJ B 1 ++ putA ([B.p0, B.p1, B.p2, B.p3].take k)) ++ putL ([B.p0, B.p1, B.p2, B.p3].getD k 0)) := Lib.hid (by rw [putA_take _ _ hlt, List.append_assoc])
          generalize [B.p0, B.p1, B.p2, B.p3].getD k 0 = x at *
          generalize outJ B 1 ++ putA ([B.p0, B.p1, B.p2, B.p3].take k) = out at *
          have HS := Lib.hid hsit
          clear hsit
          go_wp2_with fail
          refine (put_any x hx _).mono ?_
          rintro e w3 ⟨g3, cap3, rfl, hown3, hb3⟩
          have HS3 := Lib.hid (HS.out.step hb3)
          have HO3 := Lib.hid (OwnY.rb (ao := some ⟨g3, 0, none⟩) hown3)
          have hpx : (putL x).length ≤ 10 := putF_len 9 x
          have hz3 : w.heap.size ≤ w3.heap.size := HS3.out.below.size
          have hlo3 := (HS3.out.own.low _ rfl).1
          clear hown3 hb3 hcell hx HS
          go_wp2_with (at_builtin; refine wpList_append_src rfl (.tmp 36) (.tmp 38) 43 rfl w.heap.size 5 i0 (.int .u8 0) 1 Try.underlying43 hi hz0 hz1 hz2 rfl (.slice (some ⟨g, 0, none⟩) out.length cap) out.length (out.map (Value.int .u8)) rfl HS3.out.own (some ⟨g3, 0, none⟩) cap3 (putL x).length ((putL x).map (Value.int .u8)) (by simp) rfl (rbV_of HO3.out) (oneY_cells _) (by simp only [maxLen]; omega) (by omega) hz3 ?_; intro v1 w4 hown4 hgrow4 hnil4 hloc4)
          rw [← List.map_append, ← List.length_append] at hown4
          obtain ⟨_, ao4, cap4, rfl, hown⟩ := ownY_shape hown4
          have hex : ∃ g4, ao4 = some ⟨g4, 0, none⟩ := by
            rcases hown.2 with ⟨h1, _⟩ | ⟨g4, _, _, h1, _⟩
            · have := hnil4.1 h1; simp at this
            · simp only [Value.slice.injEq, true_and] at h1; exact ⟨g4, h1.1⟩
          obtain ⟨g4, hg4⟩ := hex
          subst hg4
          have HS4 := Lib.hid (HS3.out.app hown hgrow4 (by simpa [Value.ownBlock] using hloc4))
          clear hown hown4 hgrow4 hnil4 hloc4 HS3 HO3
          obtain ⟨n4, hn4⟩ : ∃ n4, (out ++ putL x).length = n4 := ⟨_, rfl⟩
          rw [hn4]
          have HN4 := Lib.hid hn4
          clear hn4
          go_wp2_with fail
          go_roundw
          case rel => exact ⟨_, _, _, ⟨k + 1, g4, cap4, hlt, by go_num, by rw [hnx.out, HN4.out], by rw [hnx.out]; exact HS4.out⟩, rfl, rfl, rfl⟩
          case measure => simp [intOf]; omega
        · have hkk : k = 4 := by omega
          have ht : Hid (outJ B 1 ++ putA ([B.p0, B.p1, B.p2, B.p3].take k) = outJ B 2) := Lib.hid (by rw [hkk, List.take_of_length_le (by simp)]; rfl)
          generalize outJ B 1 ++ putA ([B.p0, B.p1, B.p2, B.p3].take k) = out at *
          have HS := Lib.hid hsit
          clear hsit hkk
          go_wp2_with fail
          go_roundw
          case rel => exact ⟨2, g, cap, by omega, by first | rfl | go_num, by rw [← ht.out], by rw [← ht.out]; exact HS.out⟩
          case measure => simp [intOf]
    · have HS := Lib.hid hsit
      clear hsit hj x0 x1
      go_wp2_with fail
      go_ret2
      have hS := HS.out
      rw [outJ_two] at hS
      rw [outJ_two]
      exact ⟨g, cap, rfl, hS.own, hS.below⟩
end Go.Proofs.Ytjiffflhedekfaa
