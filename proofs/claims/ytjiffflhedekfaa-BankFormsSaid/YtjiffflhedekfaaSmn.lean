/- Pick, near, some. -/
import Derived.Test.YtjiffflhedekfaaKn0
namespace Go.Proofs.Ytjiffflhedekfaa
open Go.RowKit

set_option maxHeartbeats 1000000 in
/-- distraintkit.Pick. -/
theorem pick_any (x : Int) (n : Nat) (w : World) (hx : -9223372036854775808 ≤ x ∧ x ≤ 9223372036854775807) (hn : 0 < n) (hn2 : n ≤ 1000000) :
    Calls Try.prog 68 #[.int .i64 x, .int .i64 n] w fun e w' => e = .returned (.int .i64 (x % n)) ∧ w = w' := by
  obtain ⟨hx0, hx1⟩ := hx
  have hn0 : ¬ n = 0 := by omega
  by_cases h0 : 0 ≤ x
  · have hm : 0 ≤ x % (n : Int) := Int.emod_nonneg _ (by omega)
    go_enter Try.func68, Try.ntmps68
    go_wp2
    go_ret
    exact ⟨rfl, rfl⟩
  · have h1 : -(n : Int) < x.tmod n := by
      have := Int.lt_tmod_of_pos x (show (0 : Int) < n by omega)
      omega
    have h2 : x.tmod n ≤ 0 := by
      have := Int.tmod_nonneg (a := -x) (n : Int) (by omega)
      rw [Int.neg_tmod] at this
      omega
    have h3 : x % n = if x.tmod n = 0 then 0 else x.tmod n + n := by
      rw [Int.emod_eq_tmod]
      split
      · rename_i h
        rcases h with h | h
        · omega
        · have := Int.tmod_eq_zero_of_dvd h
          simp [this]
      · rename_i h
        have : ¬ x.tmod n = 0 := fun e => h (.inr (Int.dvd_of_tmod_eq_zero e))
        rw [if_neg this]; simp
    have H3 := Lib.hid h3
    clear h3
    by_cases ht : x.tmod n < 0
    · go_enter Try.func68, Try.ntmps68
      go_wp2
      go_ret
      rw [H3.out, if_neg (by omega)]
      exact ⟨rfl, rfl⟩
    · go_enter Try.func68, Try.ntmps68
      go_wp2
      go_ret
      rw [H3.out, if_pos (by omega)]
      have : x.tmod n = 0 := by omega
      exact ⟨by simp [this], rfl⟩
end Go.Proofs.Ytjiffflhedekfaa
