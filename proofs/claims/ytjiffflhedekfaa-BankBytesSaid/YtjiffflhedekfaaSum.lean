/- The walks of the sums: fixnum.Add, fold, Sum; distraintref01.Add, Sum. -/
import Derived.Test.YtjiffflhedekfaaProg
import Derived.Test.YtjiffflhedekfaaSp
import Derived.WalkKit
import Derived.WalkSpells
import Derived.WalkLawsBesides
namespace Go.Proofs.Ytjiffflhedekfaa
open Go.RowKit

theorem add64 (x y : Int) (hx : 0 ≤ x) (hy : 0 ≤ y) (w : World) : (callFunc 89 #[.int .u64 x, .int .u64 y, .int .u64 0]).run Try.prog w =
    .ok (.value (.tuple #[.int .u64 ((x + y) % 18446744073709551616), .int .u64 ((x + y) / 18446744073709551616)])) w := by
  rw [run_callFunc_extern (e := add64Entry) Try.func89 (by kernel_rfl) (by kernel_rfl) (by kernel_rfl) (by kernel_rfl), run_add64 x y 0 hx hy (Int.le_refl 0) (by decide) w]
  simp [Result.andThen]

set_option maxHeartbeats 400000 in
theorem refAdd_any (a b : Int) (ha : W64 a) (hb : W64 b) (w : World) :
    Calls Try.prog 71 #[.int .u64 a, .int .u64 b] w fun e w' => e = .returned (.tuple #[.int .u64 (sumV (a + b)), .int .i64 (sumE (a + b))]) ∧ w = w' := by
  obtain ⟨ha, ha'⟩ := ha
  obtain ⟨hb, hb'⟩ := hb
  by_cases h : 18446744073709551615 < a + b
  · go_enter Try.func71, Try.ntmps71
    go_wp2
    go_ret2
    exact ⟨by simp [sumV, sumE, big_of h], rfl⟩
  · go_enter Try.func71, Try.ntmps71
    go_wp2
    go_ret2
    exact ⟨by simp [sumV, sumE, big_not (by omega : a + b ≤ 18446744073709551615)], rfl⟩

set_option maxHeartbeats 400000 in
theorem add_any (a b : Int) (ha : W64 a) (hb : W64 b) (w : World) :
    Calls Try.prog 70 #[.int .u64 a, .int .u64 b] w fun e w' => e = .returned (.tuple #[.int .u64 (sumV (a + b)), .int .i64 (sumE (a + b))]) ∧ w = w' := by
  obtain ⟨ha, ha'⟩ := ha
  obtain ⟨hb, hb'⟩ := hb
  have h64 := add64 a b ha hb
  by_cases h : 18446744073709551615 < a + b
  · have hd : ((a + b) / 18446744073709551616 != 0) = true := by rw [bne_iff_ne]; omega
    go_enter Try.func70, Try.ntmps70
    go_wp2
    go_ret2
    exact ⟨by simp [sumV, sumE, big_of h], rfl⟩
  · have hd : ((a + b) / 18446744073709551616 != 0) = false := by
      have : (a + b) / 18446744073709551616 = 0 := by omega
      rw [this]; rfl
    have hm : (a + b) % 18446744073709551616 = a + b := by omega
    go_enter Try.func70, Try.ntmps70
    go_wp2
    go_ret2
    exact ⟨by simp [sumV, sumE, big_not (by omega : a + b ≤ 18446744073709551615)], rfl⟩

set_option maxHeartbeats 400000 in
/-- fixnum.fold over Add: the sum. -/
theorem fold_any (ao : Option Addr) (l : List Int) (c : Nat) (w : World) (hl : Ws l) (hr : Rd w ao l) (hm : l.length ≤ 9223372036854775807) :
    Calls Try.prog 88 #[.slice ao l.length c, .func (.func 70) #[] #[]] w fun e w' => e = .returned (.tuple #[.int .u64 (sumV l.sum), .int .i64 (sumE l.sum)]) ∧ w = w' := by
  go_enter Try.func88, Try.ntmps88
  go_wp2_with fail
  go_loop [4, 5, 10] (fun n e i => ∃ k : Nat, k ≤ l.length ∧ i = .int .i64 k ∧ n = .int .u64 (l.take k).sum ∧ e = .int .i64 0 ∧ (l.take k).sum ≤ 18446744073709551615)
    (fun _ _ i => l.length - (intOf i).toNat)
  case atStart => exact ⟨0, Nat.zero_le _, rfl, rfl, rfl, by simp⟩
  case round =>
    obtain ⟨k, hk, rfl, rfl, rfl, hs⟩ := hrel
    have hs0 : 0 ≤ (l.take k).sum := (hl.take k).sum_nonneg
    by_cases hlt : k < l.length
    · obtain ⟨b, o, rfl, hc⟩ := hr k hlt
      have hx := hl.at hlt
      have hss := sum_take_succ l k hlt
      have hle := sum_take_le hl (k + 1)
      generalize l.getD k 0 = x at *
      generalize (l.take k).sum = s at *
      generalize hs' : (l.take (k + 1)).sum = s' at *
      have HS := Lib.hid hss
      have HS' := Lib.hid hs'
      clear hss hs'
      have hw : W64 s := ⟨hs0, by omega⟩
      obtain ⟨hx0, hx1⟩ := hx
      by_cases hb : 18446744073709551615 < s + x
      · have e1 : sumV (s + x) = 0 := by simp [sumV, big_of hb]
        have e2 : sumE (s + x) = 12 := by simp [sumE, big_of hb]
        have e3 : sumV l.sum = 0 := by have := HS.out; simp [sumV, big_of (show 18446744073709551615 < l.sum by omega)]
        have e4 : sumE l.sum = 12 := by have := HS.out; simp [sumE, big_of (show 18446744073709551615 < l.sum by omega)]
        go_wp2_with (go_at_call 70; refine (add_any s x hw ⟨hx0, hx1⟩ _).mono ?_; rintro e w' ⟨rfl, rfl⟩)
        go_ret2
        exact ⟨by simp [e3, e4], rfl⟩
      · have e1 : sumV (s + x) = s + x := by simp [sumV, big_not (show s + x ≤ 18446744073709551615 by omega)]
        have e2 : sumE (s + x) = 0 := by simp [sumE, big_not (show s + x ≤ 18446744073709551615 by omega)]
        go_wp2_with (go_at_call 70; refine (add_any s x hw ⟨hx0, hx1⟩ _).mono ?_; rintro e w' ⟨rfl, rfl⟩)
        go_round
        case rel => exact ⟨k + 1, by omega, by go_num, by rw [HS'.out, HS.out], rfl, by rw [HS'.out, HS.out]; omega⟩
        case measure => simp [intOf]; omega
    · have hke : l.take k = l := List.take_of_length_le (by omega)
      rw [hke] at hs ⊢
      have e3 : sumV l.sum = l.sum := by simp [sumV, big_not hs]
      have e4 : sumE l.sum = 0 := by simp [sumE, big_not hs]
      have H3 := Lib.hid e3
      have H4 := Lib.hid e4
      clear hke e3 e4
      go_wp2
      go_ret2
      exact ⟨by rw [H3.out, H4.out]; rfl, rfl⟩

set_option maxHeartbeats 400000 in
/-- fixnum.Sum. -/
theorem sum_any (ao : Option Addr) (l : List Int) (c : Nat) (w : World) (hl : Ws l) (hr : Rd w ao l) (hm : l.length ≤ 9223372036854775807) :
    Calls Try.prog 69 #[.slice ao l.length c] w fun e w' => e = .returned (.tuple #[.int .u64 (sumV l.sum), .int .i64 (sumE l.sum)]) ∧ w = w' := by
  go_enter Try.func69, Try.ntmps69
  go_wp2_with (go_at_call 88; refine (fold_any ao l c _ hl hr hm).mono ?_; rintro e w' ⟨rfl, rfl⟩)
  go_ret2
  exact ⟨rfl, rfl⟩

set_option maxHeartbeats 400000 in
/-- distraintref01.Sum. -/
theorem refSum_any (ao : Option Addr) (l : List Int) (c : Nat) (w : World) (hl : Ws l) (hr : Rd w ao l) (hm : l.length ≤ 9223372036854775807) :
    Calls Try.prog 46 #[.slice ao l.length c] w fun e w' => e = .returned (.tuple #[.int .u64 (sumV l.sum), .int .i64 (sumE l.sum)]) ∧ w = w' := by
  go_enter Try.func46, Try.ntmps46
  go_wp2_with fail
  go_loop [4, 5, 6] (fun n e i => ∃ k : Nat, k ≤ l.length ∧ i = .int .i64 k ∧ n = .int .u64 (sumV (l.take k).sum) ∧ e = .int .i64 (sumE (l.take k).sum))
    (fun _ _ i => l.length - (intOf i).toNat)
  case atStart => exact ⟨0, Nat.zero_le _, rfl, rfl, rfl⟩
  case round =>
    obtain ⟨k, hk, rfl, rfl, rfl⟩ := hrel
    have hs0 : 0 ≤ (l.take k).sum := (hl.take k).sum_nonneg
    by_cases hlt : k < l.length
    · have hss := sum_take_succ l k hlt
      have hle := sum_take_le hl k
      by_cases hb : 18446744073709551615 < (l.take k).sum
      · have e1 : sumV (l.take k).sum = 0 := by simp [sumV, big_of hb]
        have e2 : sumE (l.take k).sum = 12 := by simp [sumE, big_of hb]
        have e3 : sumV l.sum = 0 := by simp [sumV, big_of (show 18446744073709551615 < l.sum by omega)]
        have e4 : sumE l.sum = 12 := by simp [sumE, big_of (show 18446744073709551615 < l.sum by omega)]
        clear hss
        go_wp2
        go_ret2
        exact ⟨by simp [e3, e4], rfl⟩
      · obtain ⟨b, o, rfl, hc⟩ := hr k hlt
        have hx := hl.at hlt
        have e1 : sumV (l.take k).sum = (l.take k).sum := by simp [sumV, big_not (show (l.take k).sum ≤ 18446744073709551615 by omega)]
        have e2 : sumE (l.take k).sum = 0 := by simp [sumE, big_not (show (l.take k).sum ≤ 18446744073709551615 by omega)]
        rw [e1, e2]
        generalize l.getD k 0 = x at *
        generalize (l.take k).sum = s at *
        generalize hs' : (l.take (k + 1)).sum = s' at *
        have HS := Lib.hid hss
        have HS' := Lib.hid hs'
        clear hss hs' e1 e2
        have hw : W64 s := ⟨hs0, by omega⟩
        go_wp2_with (go_at_call 71; refine (refAdd_any s x hw hx _).mono ?_; rintro e w' ⟨rfl, rfl⟩)
        go_round
        case rel => exact ⟨k + 1, by omega, by go_num, by rw [HS'.out, HS.out], by rw [HS'.out, HS.out]⟩
        case measure => simp [intOf]; omega
    · have hke : l.take k = l := List.take_of_length_le (by omega)
      rw [hke]
      clear hke
      go_wp2
      go_ret2
      exact ⟨rfl, rfl⟩
end Go.Proofs.Ytjiffflhedekfaa
