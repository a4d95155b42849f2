/- among. -/
import Derived.Test.YtkpfnonacebmkaaTc
namespace Go.Proofs.Ytkpfnonacebmkaa
open Go.RowKit

set_option maxRecDepth 100000 in
set_option maxHeartbeats 800000 in
theorem among_any (ao : Option Addr) (l : List Int) (c : Nat) (x : Int) (w : World) (hl : Ri w ao l) (nl : l.length ≤ 9223372036854775807) :
    Calls Try.prog 33 #[.slice ao l.length c, .int .i64 x] w fun e w' => e = .returned (.bool (decide (x ∈ l))) ∧ w' = w := by
  go_enter Try.func33, Try.ntmps33
  go_wp2_with fail
  go_loop [5] (fun i => ∃ k : Nat, k ≤ l.length ∧ i = .int .i64 k ∧ x ∉ l.take k) (fun i => l.length - (intOf i).toNat)
  case atStart => exact ⟨0, Nat.zero_le _, rfl, by simp⟩
  case round =>
    obtain ⟨k, hk, rfl, hno⟩ := hrel
    by_cases hlt : k < l.length
    · obtain ⟨b, o, rfl, hc⟩ := hl k hlt
      have hg : l[k]? = some (l.getD k 0) := by rw [List.getD_eq_getElem?_getD, List.getElem?_eq_getElem hlt]; rfl
      have HT : Hid (l.take (k + 1) = l.take k ++ [l.getD k 0]) := Lib.hid (by rw [List.take_add_one, hg]; rfl)
      have HM := Lib.hid (List.mem_of_getElem? hg)
      have HN := Lib.hid hno
      clear hg hno
      generalize l.getD k 0 = y at *
      by_cases hxy : y = x
      · subst hxy
        have HD : Hid (decide (y ∈ l) = true) := Lib.hid (decide_eq_true HM.out)
        go_wp2_with fail
        go_ret
        exact ⟨by rw [HD.out]; rfl, rfl⟩
      · have hb : (y == x) = false := beq_false_of_ne hxy
        go_wp2_with fail
        go_round
        case rel => exact ⟨k + 1, by omega, by go_num, by rw [HT.out, List.mem_append, List.mem_singleton]; exact fun h => h.elim HN.out (fun e => hxy e.symm)⟩
        case measure => simp [intOf]; omega
    · have HN : Hid (decide (x ∈ l) = false) := Lib.hid (decide_eq_false (by rw [List.take_of_length_le (by omega)] at hno; exact hno))
      clear hno
      go_wp2_with fail
      go_ret
      exact ⟨by rw [HN.out]; rfl, rfl⟩
end Go.Proofs.Ytkpfnonacebmkaa
