/- The walks of the small functions: account.in, pool.in, there, pool, first, arg, poor; Have. -/
import Derived.Test.YtjiffflhedekfaaAsk
namespace Go.Proofs.Ytjiffflhedekfaa
open Go.RowKit

/-- Is there such an account, such a pool? -/
def thereE (n : Nat) (i : Int) : Int := if 0 ≤ i ∧ i < n then 0 else 10
def poolE (i : Int) : Int := if 0 ≤ i ∧ i < 4 then 0 else 3
theorem thereE_yes {n : Nat} {i : Int} (h : 0 ≤ i) (h' : i < n) : thereE n i = 0 := if_pos ⟨h, h'⟩
theorem thereE_no {n : Nat} {i : Int} (h : ¬ (0 ≤ i ∧ i < n)) : thereE n i = 10 := if_neg h
theorem poolE_yes {i : Int} (h : 0 ≤ i) (h' : i < 4) : poolE i = 0 := if_pos ⟨h, h'⟩
theorem poolE_no {i : Int} (h : ¬ (0 ≤ i ∧ i < 4)) : poolE i = 3 := if_neg h

set_option maxHeartbeats 400000 in
/-- account.in, where there is the account. -/
theorem accIn_yes (k b bb oo n c : Nat) (w : World) (hk : k < n) (hn : n ≤ 9223372036854775807) (hc : w.cell? ⟨b, 0, none⟩ = some (.slice (some ⟨bb, oo, none⟩) n c)) :
    Calls Try.prog 48 #[.int .i64 k, .pointer (some ⟨b, 0, none⟩)] w fun e w' => e = .returned (.tuple #[.pointer (some ⟨bb, oo + k, none⟩), .int .i64 0]) ∧ w = w' := by
  go_enter Try.func48, Try.ntmps48
  go_wp2
  go_ret2
  exact ⟨rfl, rfl⟩
set_option maxHeartbeats 400000 in
/-- account.in, where there is no such account. -/
theorem accIn_no (i : Int) (b n c : Nat) (ao : Option Addr) (w : World) (hk : ¬ (0 ≤ i ∧ i < n)) (hn : n ≤ 9223372036854775807) (hc : w.cell? ⟨b, 0, none⟩ = some (.slice ao n c)) :
    Calls Try.prog 48 #[.int .i64 i, .pointer (some ⟨b, 0, none⟩)] w fun e w' => e = .returned (.tuple #[.pointer none, .int .i64 10]) ∧ w = w' := by
  by_cases h0 : i < 0
  · clear hk
    go_enter Try.func48, Try.ntmps48
    go_wp2
    go_ret2
    exact ⟨rfl, rfl⟩
  · have h1 : (n : Int) ≤ i := by omega
    clear hk
    go_enter Try.func48, Try.ntmps48
    go_wp2
    go_ret2
    exact ⟨rfl, rfl⟩
set_option maxHeartbeats 400000 in
theorem poolIn_yes (k b : Nat) (w : World) (hk : k < 4) :
    Calls Try.prog 111 #[.int .i64 k, .pointer (some ⟨b, 0, none⟩)] w fun e w' => e = .returned (.tuple #[.pointer (some ⟨b, 1 + k, none⟩), .int .i64 0]) ∧ w = w' := by
  go_enter Try.func111, Try.ntmps111
  go_wp2
  go_ret2
  exact ⟨rfl, rfl⟩
set_option maxHeartbeats 400000 in
theorem poolIn_no (i : Int) (b : Nat) (w : World) (hk : ¬ (0 ≤ i ∧ i < 4)) :
    Calls Try.prog 111 #[.int .i64 i, .pointer (some ⟨b, 0, none⟩)] w fun e w' => e = .returned (.tuple #[.pointer none, .int .i64 3]) ∧ w = w' := by
  by_cases h0 : i < 0
  · clear hk
    go_enter Try.func111, Try.ntmps111
    go_wp2
    go_ret2
    exact ⟨rfl, rfl⟩
  · have h1 : 4 ≤ i := by omega
    clear hk
    go_enter Try.func111, Try.ntmps111
    go_wp2
    go_ret2
    exact ⟨rfl, rfl⟩
set_option maxHeartbeats 400000 in
theorem pool_any (i : Int) (w : World) : Calls Try.prog 75 #[.int .i64 i] w fun e w' => e = .returned (.int .i64 (poolE i)) ∧ w = w' := by
  by_cases h0 : i < 0
  · have HE := Lib.hid (poolE_no (i := i) (by omega))
    go_enter Try.func75, Try.ntmps75
    go_wp2
    go_ret
    exact ⟨by rw [HE.out]; rfl, rfl⟩
  · by_cases h1 : i < 4
    · have HE := Lib.hid (poolE_yes (i := i) (by omega) h1)
      go_enter Try.func75, Try.ntmps75
      go_wp2
      go_ret
      exact ⟨by rw [HE.out]; rfl, rfl⟩
    · have HE := Lib.hid (poolE_no (i := i) (by omega))
      go_enter Try.func75, Try.ntmps75
      go_wp2
      go_ret
      exact ⟨by rw [HE.out]; rfl, rfl⟩
set_option maxHeartbeats 400000 in
theorem there_any (ao : Option Addr) (B : Bk) (c : Nat) (i : Int) (w : World) (nB : B.L.length ≤ 9223372036854775807) :
    Calls Try.prog 49 #[.agg #[.slice ao B.L.length c, .int .u64 B.p0, .int .u64 B.p1, .int .u64 B.p2, .int .u64 B.p3], .int .i64 i] w
      fun e w' => e = .returned (.int .i64 (thereE B.L.length i)) ∧ Below w.heap.size w w' := by
  have HB := Lib.hid (fun o : Obj => (Below.refl w.heap.size w).alloc (Nat.le_refl _) o)
  by_cases h0 : i < 0
  · have HE := Lib.hid (thereE_no (n := B.L.length) (i := i) (by omega))
    go_enter Try.func49, Try.ntmps49
    go_wp2
    go_ret
    exact ⟨by rw [HE.out]; rfl, HB.out _⟩
  · by_cases h1 : i < (B.L.length : Int)
    · have HE := Lib.hid (thereE_yes (i := i) (by omega) h1)
      go_enter Try.func49, Try.ntmps49
      go_wp2
      go_ret
      exact ⟨by rw [HE.out]; rfl, HB.out _⟩
    · have HE := Lib.hid (thereE_no (n := B.L.length) (i := i) (by omega))
      go_enter Try.func49, Try.ntmps49
      go_wp2
      go_ret
      exact ⟨by rw [HE.out]; rfl, HB.out _⟩
def argE (b : Bool) : Int := if b then 2 else 0
set_option maxHeartbeats 400000 in
theorem arg_any (b : Bool) (w : World) : Calls Try.prog 73 #[.bool b] w fun e w' => e = .returned (.int .i64 (argE b)) ∧ w = w' := by
  cases b
  · go_enter Try.func73, Try.ntmps73
    go_wp2
    go_ret
    exact ⟨rfl, rfl⟩
  · go_enter Try.func73, Try.ntmps73
    go_wp2
    go_ret
    exact ⟨rfl, rfl⟩
def poorE (have_ n : Int) : Int := if have_ < n then 13 else 0
set_option maxHeartbeats 400000 in
theorem poor_any (a n : Int) (w : World) : Calls Try.prog 74 #[.int .u64 a, .int .u64 n] w fun e w' => e = .returned (.int .i64 (poorE a n)) ∧ w = w' := by
  by_cases h : a < n
  · have HE := Lib.hid (show poorE a n = 13 from if_pos h)
    go_enter Try.func74, Try.ntmps74
    go_wp2
    go_ret
    exact ⟨by rw [HE.out]; rfl, rfl⟩
  · have HE := Lib.hid (show poorE a n = 0 from if_neg h)
    go_enter Try.func74, Try.ntmps74
    go_wp2
    go_ret
    exact ⟨by rw [HE.out]; rfl, rfl⟩
def firstE : List Int → Int
  | [] => 0
  | e :: l => if e ≠ 0 then e else firstE l
theorem firstE_drop (l : List Int) (k : Nat) (hk : k < l.length) : firstE (l.drop k) = if l.getD k 0 ≠ 0 then l.getD k 0 else firstE (l.drop (k + 1)) := by
  rw [List.drop_eq_getElem_cons hk, getD_at hk]; rfl
set_option maxHeartbeats 400000 in
/-- distraintref09.first. -/
theorem first_any (g : Nat) (l : List Int) (c : Nat) (w : World) (hc : ∀ k, k < l.length → w.cell? ⟨g, k, none⟩ = some (.int .i64 (l.getD k 0))) (nl : l.length ≤ 9223372036854775807) :
    Calls Try.prog 72 #[.slice (some ⟨g, 0, none⟩) l.length c] w fun e w' => e = .returned (.int .i64 (firstE l)) ∧ w = w' := by
  go_enter Try.func72, Try.ntmps72
  go_wp2_with fail
  go_loop [3] (fun i => ∃ k : Nat, k ≤ l.length ∧ i = .int .i64 k ∧ Hid (firstE l = firstE (l.drop k))) (fun i => l.length - (intOf i).toNat)
  case atStart => exact ⟨0, Nat.zero_le _, rfl, Lib.hid (by simp)⟩
  case round =>
    obtain ⟨k, hk, rfl, HF⟩ := hrel
    by_cases hlt : k < l.length
    · have hcx := hc k hlt
      have HD := Lib.hid (firstE_drop l k hlt)
      generalize hx : l.getD k 0 = x at *
      have HX := Lib.hid hx
      clear hx hc
      by_cases h0 : x = 0
      · subst h0
        go_wp2
        go_round
        case rel => exact ⟨k + 1, by omega, by go_num, Lib.hid (by rw [HF.out, HD.out]; simp)⟩
        case measure => simp [intOf]; omega
      · have hq : (x != 0) = true := by rw [bne_iff_ne]; exact h0
        have HE := Lib.hid (show firstE l = x by rw [HF.out, HD.out]; simp [h0])
        clear h0
        go_wp2
        go_ret
        exact ⟨by rw [HE.out]; rfl, rfl⟩
    · have HE := Lib.hid (show firstE l = 0 by rw [HF.out, List.drop_of_length_le (by omega)]; rfl)
      clear hc
      go_wp2
      go_ret
      exact ⟨by rw [HE.out]; rfl, rfl⟩
end Go.Proofs.Ytjiffflhedekfaa
