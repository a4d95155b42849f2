/- codec.number: the number that bytes begin with. -/
import Derived.Test.YtjiffflhedekfaaByt
namespace Go.Proofs.Ytjiffflhedekfaa
open Go.RowKit

/-- From the i-th byte on, n having come. -/
def numF (i : Nat) (n : Int) : List Int → Int × Int × Int
  | [] => (0, 0, 6)
  | c :: l => if i = 9 ∧ 1 < c ∨ 0 < i ∧ c = 0 then (0, 0, 5) else if c < 128 then (n + c % 128 * 128 ^ i, i + 1, 0) else numF (i + 1) (n + c % 128 * 128 ^ i) l
def numR (l : List Int) : Int × Int × Int := numF 0 0 l

theorem pow_le9 {k : Nat} (h : k ≤ 9) : (128 : Int) ^ k ≤ 9223372036854775808 := by
  have : ∀ k : Fin 10, (128 : Int) ^ k.val ≤ 9223372036854775808 := by decide
  exact this ⟨k, by omega⟩
theorem two_pow7 (k : Nat) : (2 : Int) ^ (7 * k) = 128 ^ k := by rw [Int.pow_mul]; rfl
theorem acc_step {m x : Int} {k : Nat} (hm0 : 0 ≤ m) (hm1 : m < 128 ^ k) (hx0 : 0 ≤ x) (hx1 : x < 256) (hk : k ≤ 9) (h9 : k = 9 → x ≤ 1) :
    bits .or .u64 m (IntKind.u64.wrap (IntKind.u64.wrap (bits .and .u8 x 127) * 2 ^ (7 * k))) = m + x % 128 * 128 ^ k ∧ 0 ≤ m + x % 128 * 128 ^ k ∧ (k ≤ 8 → m + x % 128 * 128 ^ k < 128 ^ (k + 1)) := by
  have e1 : bits .and .u8 x 127 = x % 128 := by
    rw [u8_and x 127 hx0 hx1 (by omega) (by omega)]
    rw [show ((127 : Int)).toNat = 127 from rfl, nat_mask7]
    omega
  have hp := pow_le9 hk
  have hpos : (0 : Int) < 128 ^ k := Int.pow_pos (by omega)
  have hq : 0 ≤ x % 128 ∧ x % 128 ≤ 127 := by omega
  have hq9 : k = 9 → x % 128 ≤ 1 := fun h => by have := h9 h; omega
  generalize hqq : x % 128 = q at *
  have hprod : 0 ≤ q * 128 ^ k := Int.mul_nonneg hq.1 (by omega)
  have hlast : k ≤ 8 → q * 128 ^ k + 128 ^ k ≤ 128 ^ (k + 1) := fun _ => by
    rw [Int.pow_succ]
    have : q * 128 ^ k ≤ 127 * 128 ^ k := Int.mul_le_mul_of_nonneg_right hq.2 (by omega)
    omega
  have hlt : q * 128 ^ k < 18446744073709551616 := by
    by_cases h : k = 9
    · have := hq9 h
      have h1 : q * 128 ^ k ≤ 1 * 128 ^ k := Int.mul_le_mul_of_nonneg_right this (by omega)
      omega
    · have h8 : k ≤ 8 := by omega
      have h1 := hlast h8
      have h2 := pow_le9 (show k + 1 ≤ 9 by omega)
      omega
  have e2 : IntKind.u64.wrap (IntKind.u64.wrap (bits .and .u8 x 127) * 2 ^ (7 * k)) = q * 128 ^ k := by
    
    have w1 : IntKind.u64.wrap q = q := by rw [IntKind.wrap_u64]; exact Int.emod_eq_of_lt hq.1 (by omega)
    rw [e1, w1, two_pow7, IntKind.wrap_u64]
    exact Int.emod_eq_of_lt hprod hlt
  rw [e2, u64_or m _ hm0 (by omega) hprod hlt]
  have hj : m.toNat ||| (q * 128 ^ k).toNat = m.toNat + (q * 128 ^ k).toNat := by
    rw [Nat.or_comm, nat_join (7 * k) (q * 128 ^ k).toNat m.toNat ?_ ?_]
    · omega
    · have : (q * 128 ^ k).toNat = q.toNat * 2 ^ (7 * k) := by
        rw [← two_pow7]
        have e : ((q.toNat * 2 ^ (7 * k) : Nat) : Int) = q * 2 ^ (7 * k) := by push_cast; rw [Int.toNat_of_nonneg hq.1]
        omega
      rw [this]; exact Nat.mul_mod_left _ _
    · rw [← two_pow7] at hm1
      have e : ((2 ^ (7 * k) : Nat) : Int) = 2 ^ (7 * k) := by push_cast; rfl
      omega
  rw [hj]
  refine ⟨by omega, by omega, fun h8 => ?_⟩
  have h1 := hlast h8
  omega

theorem ret_tup {a b c a' b' c' : Int} (h : (a, b, c) = (a', b', c')) : Ending.returned (.tuple #[.int .u64 a, .int .i64 b, .int .i64 c]) = .returned (.tuple #[.int .u64 a', .int .i64 b', .int .i64 c']) := by
  simp only [Prod.mk.injEq] at h; rw [h.1, h.2.1, h.2.2]

set_option maxHeartbeats 1000000 in
theorem number_any (ao : Option Addr) (l : List Int) (c : Nat) (w : World) (hl : Rb w ao l) (bl : Bs l) (nl : l.length ≤ 140737488355328) :
    Calls Try.prog 81 #[.slice ao l.length c] w fun e w' => e = .returned (.tuple #[.int .u64 (numR l).1, .int .i64 (numR l).2.1, .int .i64 (numR l).2.2]) ∧ w = w' := by
  go_enter Try.func81, Try.ntmps81
  go_wp2
  go_loop [2, 3, 4, 5, 10] (fun a b e n i => ∃ (k : Nat) (m : Int), k ≤ l.length ∧ k ≤ 9 ∧ a = .int .u64 0 ∧ b = .int .i64 0 ∧ e = .int .i64 0 ∧ n = .int .u64 m ∧ i = .int .i64 k ∧ 0 ≤ m ∧ m < 128 ^ k ∧ numR l = numF k m (l.drop k))
    (fun _ _ _ _ i => l.length - (intOf i).toNat)
  case atStart => exact ⟨0, 0, by omega, by omega, rfl, rfl, rfl, rfl, rfl, by omega, by simp, rfl⟩
  case round =>
    obtain ⟨k, m, hk, hk9, rfl, rfl, rfl, rfl, rfl, hm0, hm1, hr⟩ := hrel
    by_cases hlt : k < l.length
    · obtain ⟨b, o, rfl, hc⟩ := hl k hlt
      have hx := bl.at hlt
      have hd : l.drop k = l.getD k 0 :: l.drop (k + 1) := by rw [List.drop_eq_getElem_cons hlt, getD_at hlt]
      rw [hd] at hr
      generalize l.getD k 0 = x at *
      rw [numF] at hr
      have hst := @acc_step m x k hm0 hm1 hx.1 hx.2 hk9
      have HM := Lib.hid hm1
      clear hd hm1
      by_cases c9 : k = 9
      · have h9 : ((k : Int) == 9) = true := by rw [beq_iff_eq]; omega
        by_cases c1 : 1 < x
        · have K9 := Lib.hid c9
          have hx0 : (x == 0) = false := by rw [beq_eq_false_iff_ne]; omega
          rw [if_pos (Or.inl ⟨c9, c1⟩)] at hr
          have HR := Lib.hid hr
          clear hr hst c9
          go_wp2
          go_ret3
          exact ⟨ret_tup (by rw [HR.out]), rfl⟩
        · have hk0 : 0 < k := by omega
          by_cases c0 : x = 0
          · have hx0 : (x == 0) = true := by simpa using c0
            rw [if_pos (Or.inr ⟨hk0, c0⟩)] at hr
            have HR := Lib.hid hr
            have C0 := Lib.hid c0
            have hx1 : x ≤ 1 := by omega
            clear hr hst c9 c1 c0
            go_wp2
            go_ret3
            exact ⟨ret_tup (by rw [HR.out]), rfl⟩
          · have hx0 : (x == 0) = false := by rw [beq_eq_false_iff_ne]; exact c0
            have h128 : x < 128 := by omega
            have hx1 : x ≤ 1 := by omega
            rw [if_neg (by omega), if_pos h128] at hr
            obtain ⟨hs1, hs2, hs3⟩ := hst (fun _ => hx1)
            have HR := Lib.hid hr
            have HS := Lib.hid hs1
            clear hr hst hs1 hs2 hs3 c9 c1 c0
            go_wp2
            go_ret3
            rw [HS.out]
            exact ⟨ret_tup (by rw [HR.out]), rfl⟩
      · have h9 : ((k : Int) == 9) = false := by rw [beq_eq_false_iff_ne]; omega
        have hk8 : k ≤ 8 := by omega
        by_cases ck : 0 < k
        · by_cases c0 : x = 0
          · have hx0 : (x == 0) = true := by simpa using c0
            rw [if_pos (Or.inr ⟨ck, c0⟩)] at hr
            have HR := Lib.hid hr
            clear hr hst c9 c0
            go_wp2
            go_ret3
            exact ⟨ret_tup (by rw [HR.out]), rfl⟩
          · have hx0 : (x == 0) = false := by rw [beq_eq_false_iff_ne]; exact c0
            by_cases h128 : x < 128
            · rw [if_neg (by omega), if_pos h128] at hr
              obtain ⟨hs1, hs2, hs3⟩ := hst (fun h => by omega)
              have HR := Lib.hid hr
              have HS := Lib.hid hs1
              clear hr hst hs1 hs2 hs3 c9 c0
              go_wp2
              go_ret3
              rw [HS.out]
              exact ⟨ret_tup (by rw [HR.out]), rfl⟩
            · rw [if_neg (by omega), if_neg h128] at hr
              obtain ⟨hs1, hs2, hs3⟩ := hst (fun h => by omega)
              have hs3 := hs3 (by omega)
              have HR := Lib.hid hr
              have HS := Lib.hid hs1
              have HT := Lib.hid (And.intro hs2 hs3)
              have hge : 128 ≤ x := by omega
              clear hr hst hs1 hs2 hs3 h128 c9 c0
              go_wp2
              go_round
              case rel => exact ⟨k + 1, m + x % 128 * 128 ^ k, by omega, by omega, rfl, rfl, rfl, by rw [HS.out], by go_num, HT.out.1, HT.out.2, HR.out⟩
              case measure => simp [intOf]; omega
        · have hk0 : k ≤ 0 := by omega
          by_cases h128 : x < 128
          · rw [if_neg (by omega), if_pos h128] at hr
            obtain ⟨hs1, hs2, hs3⟩ := hst (fun h => by omega)
            have HR := Lib.hid hr
            have HS := Lib.hid hs1
            clear hr hst hs1 hs2 hs3 c9 ck
            go_wp2
            go_ret3
            rw [HS.out]
            exact ⟨ret_tup (by rw [HR.out]), rfl⟩
          · rw [if_neg (by omega), if_neg h128] at hr
            obtain ⟨hs1, hs2, hs3⟩ := hst (fun h => by omega)
            have hs3 := hs3 (by omega)
            have HR := Lib.hid hr
            have HS := Lib.hid hs1
            have HT := Lib.hid (And.intro hs2 hs3)
            have hge : 128 ≤ x := by omega
            clear hr hst hs1 hs2 hs3 h128 c9 ck
            go_wp2
            go_round
            case rel => exact ⟨k + 1, m + x % 128 * 128 ^ k, by omega, by omega, rfl, rfl, rfl, by rw [HS.out], by go_num, HT.out.1, HT.out.2, HR.out⟩
            case measure => simp [intOf]; omega
    · have hnil : l.drop k = [] := List.drop_eq_nil_of_le (by omega)
      rw [hnil] at hr
      have HR := Lib.hid hr
      clear hr hnil
      go_wp2
      go_ret3
      exact ⟨by rw [HR.out]; rfl, rfl⟩
end Go.Proofs.Ytjiffflhedekfaa
