/- journal: none, may, Get; fixnum.Add, fixnum.Sub. -/
import Derived.Test.YtkpfnonacebmkaaJr
namespace Go.Proofs.Ytkpfnonacebmkaa
open Go.RowKit

section
variable {W : World} {r n cc cb : Nat} {p : Option Addr} {lv : Value}
set_option maxHeartbeats 400000 in
theorem none_any (h : W.heap[r]? = some (.cells #[.slice (some ⟨cb, 0, none⟩) n cc, .pointer p, lv] 65 (0, 0))) (hn : 0 < n) :
    Calls Try.prog 37 #[.pointer (some ⟨r, 0, none⟩)] W fun e w' => e = .returned (.bool false) ∧ W = w' := by
  obtain ⟨a0, a1, a2, f0, f1, f2⟩ := three h
  have hq : ((n : Int) == 0) = false := by rw [beq_eq_false_iff_ne]; omega
  clear h
  go_enter Try.func37, Try.ntmps37
  go_wp2
  go_ret
  exact ⟨rfl, rfl⟩

theorem mayE_cons_bad {N : Nat} {l : List Int} {k : Nat} (hk : k < l.length) (hb : ¬ inB N (l.getD k 0) = true) : mayE N l = 3 := by
  unfold mayE
  rw [if_neg]
  intro h
  rw [List.all_eq_true] at h
  rw [getD_at hk] at hb
  exact hb (h _ (List.getElem_mem hk))
theorem all_take_succ {N : Nat} {l : List Int} {k : Nat} (hk : k < l.length) (h : (l.take k).all (inB N) = true) (hb : inB N (l.getD k 0) = true) : (l.take (k + 1)).all (inB N) = true := by
  rw [List.take_succ_eq_append_getElem hk, List.all_append, h]
  rw [getD_at hk] at hb
  simp [hb]
set_option maxRecDepth 100000 in
set_option maxHeartbeats 800000 in
theorem may_any (h : W.heap[r]? = some (.cells #[.slice (some ⟨cb, 0, none⟩) n cc, .pointer p, lv] 65 (0, 0))) (hn : 0 < n) (hn' : n ≤ 9223372036854775807) (ao : Option Addr) (l : List Int) (c : Nat) (hl : Ri W ao l) (nl : l.length ≤ 9223372036854775807) :
    Calls Try.prog 52 #[.pointer (some ⟨r, 0, none⟩), .slice ao l.length c] W fun e w' => e = .returned (.int .i64 (mayE n l)) ∧ W = w' := by
  have HN := Lib.hid (none_any h hn)
  obtain ⟨a0, a1, a2, f0, f1, f2⟩ := three h
  have HL := Lib.hid hl
  clear h hl
  go_enter Try.func52, Try.ntmps52
  go_wp2_with fail
  refine HN.out.mono ?_
  rintro e w' ⟨rfl, rfl⟩
  go_wp2_with fail
  go_loop [11] (fun i => ∃ k : Nat, k ≤ l.length ∧ i = .int .i64 k ∧ (l.take k).all (inB n) = true) (fun i => l.length - (RowKit.intOf i).toNat)
  case atStart => exact ⟨0, Nat.zero_le _, rfl, by simp⟩
  case round =>
    obtain ⟨k, hk, rfl, ht⟩ := hrel
    have HT := Lib.hid ht
    clear ht
    by_cases hlt : k < l.length
    · obtain ⟨b, o, rfl, hc⟩ := HL.out k hlt
      by_cases hb : inB n (l.getD k 0) = true
      · have HS := Lib.hid (all_take_succ hlt HT.out hb)
        obtain ⟨x0, x1⟩ := inB_of hb
        generalize l.getD k 0 = x at *
        clear hb HL
        go_wp2_with fail
        go_round
        case rel => exact ⟨k + 1, by omega, by go_num, HS.out⟩
        case measure => simp [RowKit.intOf]; omega
      · have HB := Lib.hid (mayE_cons_bad hlt hb)
        have hx := inB_not hb
        generalize l.getD k 0 = x at *
        clear hb HL
        by_cases hx0 : x < 0
        · clear hx
          go_wp2_with fail
          go_ret
          rw [HB.out]
          exact ⟨rfl, rfl⟩
        · have hx1 : (n : Int) ≤ x := by omega
          have hx2 : 0 ≤ x := by omega
          clear hx hx0
          go_wp2_with fail
          go_ret
          rw [HB.out]
          exact ⟨rfl, rfl⟩
    · have HM : Hid (mayE n l = 0) := Lib.hid (by
        have h1 := HT.out
        rw [List.take_of_length_le (by omega)] at h1
        unfold mayE; rw [if_pos h1])
      go_wp2_with fail
      go_ret
      rw [HM.out]
      exact ⟨rfl, rfl⟩
end
end Go.Proofs.Ytkpfnonacebmkaa
