/- JournalKnown. -/
import Derived.Test.YtkpfnonacebmkaaAw
namespace Go.Proofs.Ytkpfnonacebmkaa
open Go.RowKit

section
set_option maxHeartbeats 400000
theorem none_nil (W : World) : Calls Try.prog 37 #[.pointer none] W fun e w' => e = .returned (.bool true) ∧ W = w' := by
  go_enter Try.func37, Try.ntmps37
  go_wp2
  go_ret
  exact ⟨rfl, rfl⟩
theorem may_nil (ao : Option Addr) (n c : Nat) (W : World) : Calls Try.prog 52 #[.pointer none, .slice ao n c] W fun e w' => e = .returned (.int .i64 1) ∧ W = w' := by
  go_enter Try.func52, Try.ntmps52
  go_wp2_with fail
  refine (none_nil W).mono ?_
  rintro e w' ⟨rfl, rfl⟩
  go_wp2_with fail
  go_ret
  exact ⟨rfl, rfl⟩
theorem get_nil (i : Int) (W : World) : Calls Try.prog 27 #[.pointer none, .int .i64 i] W fun e w' => e = .returned (.tuple #[.int .u64 0, .int .i64 1]) ∧ Below W.heap.size W w' := by
  go_enter Try.func27, Try.ntmps27
  go_wp2_with fail
  refine (may_nil _ _ _ _).mono ?_
  rintro e w' ⟨rfl, rfl⟩
  go_wp2_with fail
  go_ret2
  exact ⟨rfl, (Below.refl _ _).alloc (Nat.le_refl _) _⟩
end

def JB : JS := ⟨[9, 5, 18446744073709551615], [], []⟩
def JBn (n : Nat) : JS := ⟨[9, 5, 18446744073709551615], [], List.replicate n (0, [])⟩
set_option maxRecDepth 100000 in
set_option maxHeartbeats 6400000 in
theorem journalKnown_any (W : World) : Calls Try.prog 4 #[] W fun e w' => e = .returned (.bool true) ∧ Below W.heap.size W w' := by
  go_enter Try.func4, Try.ntmps4
  go_wp2_with fail
  refine (begun_any W).mono ?_
  rintro e w1 ⟨r, rfl, h1⟩
  have H1 := Lib.hid h1
  clear h1
  go_wp2_with fail
  refine (opens_yes H1.out (by decide) 1 (by decide)).mono ?_
  rintro e w2 ⟨rfl, h2, _⟩
  have H2 := Lib.hid (show Jo W _ r ⟨[9, 5, 0], [], [(0, [])]⟩ w2 from h2)
  clear h2 H1
  go_wp2_with fail
  refine (opens_yes H2.out (by decide) 2 (by decide)).mono ?_
  rintro e w3 ⟨rfl, h3, _⟩
  have H3 := Lib.hid (show Jo W _ r ⟨[9, 5, 0], [], [(0, []), (0, [])]⟩ w3 from h3)
  clear h3 H2
  go_wp2_with fail
  refine (H3.out.move 0 2 (n := 9) (w64_of (n := 9) (by omega))).mono ?_
  rintro e w4 ⟨rfl, h4, _⟩
  have H4 := Lib.hid (show Jo W _ r ⟨[0, 5, 9], [(0, 9), (2, 0)], [(0, [0, 2]), (0, [])]⟩ w4 from h4)
  rw [show ((⟨[9, 5, 0], [], [(0, []), (0, [])]⟩ : JS).move 0 2 9).2 = 0 from rfl]
  clear h4 H3
  go_wp2_with fail
  refine (H4.out.move 0 2 (n := 1) (w64_of (n := 1) (by omega))).mono ?_
  rintro e w5 ⟨rfl, h5, _⟩
  have H5 := Lib.hid (show Jo W _ r ⟨[0, 5, 9], [(0, 9), (2, 0)], [(0, [0, 2]), (0, [])]⟩ w5 from h5)
  rw [show ((⟨[0, 5, 9], [(0, 9), (2, 0)], [(0, [0, 2]), (0, [])]⟩ : JS).move 0 2 1).2 = 13 from rfl]
  clear h5 H4
  go_wp2_with fail
  refine (H5.out.move 1 1 (n := 0) (w64_of (n := 0) (by omega))).mono ?_
  rintro e w6 ⟨rfl, h6, _⟩
  have H6 := Lib.hid (show Jo W _ r ⟨[0, 5, 9], [(0, 9), (2, 0)], [(0, [0, 2]), (0, [])]⟩ w6 from h6)
  rw [show ((⟨[0, 5, 9], [(0, 9), (2, 0)], [(0, [0, 2]), (0, [])]⟩ : JS).move 1 1 0).2 = 2 from rfl]
  clear h6 H5
  go_wp2_with fail
  refine (H6.out.back 3).mono ?_
  rintro e w7 ⟨rfl, h7, _⟩
  have H7 := Lib.hid (show Jo W _ r ⟨[0, 5, 9], [(0, 9), (2, 0)], [(0, [0, 2]), (0, [])]⟩ w7 from h7)
  rw [show ((⟨[0, 5, 9], [(0, 9), (2, 0)], [(0, [0, 2]), (0, [])]⟩ : JS).back 3).2 = 3 from rfl]
  clear h7 H6
  go_wp2_with fail
  refine (H7.out.back 0).mono ?_
  rintro e w8 ⟨rfl, h8, _⟩
  have H8 := Lib.hid (show Jo W _ r JA w8 from h8)
  rw [show ((⟨[0, 5, 9], [(0, 9), (2, 0)], [(0, [0, 2]), (0, [])]⟩ : JS).back 0).2 = 0 from rfl]
  clear h8 H7
  go_wp2_with fail
  refine H8.out.depth.mono ?_
  rintro e w9 ⟨rfl, rfl⟩
  rw [show JA.L.length = 0 from rfl]
  go_wp2_with fail
  refine H8.out.cells.mono ?_
  rintro e w9 ⟨ao, cap, rfl, ho, hb⟩
  have HO := Lib.hid ho
  have H9 := Lib.hid (H8.out.below hb)
  clear ho hb H8
  go_wp2_with fail
  refine (same_lit HO.out [9, 5, 0] (by decide) (by decide)).mono ?_
  rintro e w10 ⟨rfl, hb⟩
  have H10 := Lib.hid (H9.out.below hb)
  rw [show decide (JA.C = [9, 5, 0]) = true by decide]
  clear hb H9 HO
  go_wp2_with fail
  refine (H10.out.get 3).mono ?_
  rintro e w11 ⟨rfl, hb⟩
  have H11 := Lib.hid (H10.out.below hb)
  rw [show JA.get 3 = (0, 3) from rfl]
  clear hb H10
  go_wp2_with fail
  refine (H11.out.set (-1) (n := 0) (w64_of (n := 0) (by omega))).mono ?_
  rintro e w12 ⟨rfl, h12, _⟩
  have H12 := Lib.hid (show Jo W _ r JA w12 from h12)
  rw [show (JA.set (-1) 0).2 = 3 from rfl]
  clear h12 H11
  go_wp2_with fail
  refine (H12.out.sub 1 (n := 6) (w64_of (n := 6) (by omega))).mono ?_
  rintro e w13 ⟨rfl, h13, _⟩
  have H13 := Lib.hid (show Jo W _ r JA w13 from h13)
  rw [show (JA.chg 1 6 subR).2 = 13 from rfl]
  clear h13 H12
  go_wp2_with fail
  refine (H13.out.set 2 (n := 18446744073709551615) (w64_of (n := 18446744073709551615) (by omega))).mono ?_
  rintro e w14 ⟨rfl, h14, _⟩
  have H14 := Lib.hid (show Jo W _ r JB w14 from h14)
  rw [show (JA.set 2 18446744073709551615).2 = 0 from rfl]
  clear h14 H13
  go_wp2_with fail
  refine (H14.out.add 2 (n := 1) (w64_of (n := 1) (by omega))).mono ?_
  rintro e w15 ⟨rfl, h15, _⟩
  have H15 := Lib.hid (show Jo W _ r JB w15 from h15)
  rw [show (JB.chg 2 1 addR).2 = 12 from rfl]
  clear h15 H14
  go_wp2_with fail
  refine (H15.out.move 0 2 (n := 1) (w64_of (n := 1) (by omega))).mono ?_
  rintro e w16 ⟨rfl, h16, _⟩
  have H16 := Lib.hid (show Jo W _ r JB w16 from h16)
  rw [show (JB.move 0 2 1).2 = 12 from rfl]
  clear h16 H15
  go_wp2_with fail
  refine (H16.out.get 0).mono ?_
  rintro e w17 ⟨rfl, hb⟩
  have H17 := Lib.hid (H16.out.below hb)
  rw [show JB.get 0 = (9, 0) from rfl]
  clear hb H16
  go_wp2_with fail
  refine (new_far 0 w17 (by omega)).mono ?_
  rintro e w18 ⟨rfl, rfl⟩
  go_wp2_with fail
  refine (new_far 4097 w17 (by omega)).mono ?_
  rintro e w18 ⟨rfl, rfl⟩
  go_wp2_with fail
  refine (get_nil 0 w17).mono ?_
  rintro e w18 ⟨rfl, hb⟩
  have H18 := Lib.hid (show Jo W _ r (JBn 0) w18 from H17.out.below hb)
  clear hb H17
  go_wp2_with fail
  go_loopw [15, 16] (fun d i wr => ∃ k : Nat, k ≤ 64 ∧ d = .bool true ∧ i = .int .i64 ((k : Int) + 1) ∧ Jo W (fun k => k < W.heap.size) r (JBn k) wr) (fun _ i _ => 66 - (RowKit.intOf i).toNat)
  case atStart => exact ⟨0, by omega, rfl, rfl, H18.out⟩
  case round =>
    clear H18
    obtain ⟨k, hk, rfl, rfl, hj⟩ := hrel
    by_cases hlt : k < 64
    · have HJ := Lib.hid hj
      have HO := Lib.hid (opens_yes hj (by simp [JBn]; omega) ((k : Int) + 1) (by simp [JBn]))
      clear hj
      go_wp2_with fail
      refine HO.out.mono ?_
      rintro e w19 ⟨rfl, h19, _⟩
      have H19 := Lib.hid (show Jo W _ r (JBn (k + 1)) w19 from h19)
      clear h19
      go_wp2_with fail
      go_roundw
      case rel => exact ⟨k + 1, by omega, rfl, by go_num, H19.out⟩
      case measure => simp [RowKit.intOf]; omega
    · obtain rfl : k = 64 := by omega
      have HB := hj.begin
      have e0 : (JBn 64).begin = (JBn 64, 0, 7) := by unfold JS.begin; rw [if_pos (by simp [JBn])]
      rw [e0] at HB
      simp only at HB
      have HB := Lib.hid HB
      clear hj e0 hlt hk
      go_wp2_with fail
      refine HB.out.mono ?_
      rintro e w19 ⟨rfl, h19, _⟩
      have H19 := Lib.hid h19.base
      clear h19
      go_wp2_with fail
      refine (awake_any w19).mono ?_
      rintro e w20 ⟨rfl, hb⟩
      have HB2 := Lib.hid (H19.out.trans (hb.mono H19.out.size))
      clear hb
      go_wp2_with fail
      go_ret
      exact ⟨rfl, HB2.out⟩
end Go.Proofs.Ytkpfnonacebmkaa
