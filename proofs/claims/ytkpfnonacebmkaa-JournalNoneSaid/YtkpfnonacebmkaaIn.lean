/- The walks of the lists of ints: SameInts, OverInts. -/
import Derived.Test.YtkpfnonacebmkaaWd
namespace Go.Proofs.Ytkpfnonacebmkaa
open Go.RowKit

/-- A slice's elements are these ints. -/
def Ri (w : World) (ao : Option Addr) (l : List Int) : Prop :=
  ∀ k, k < l.length → ∃ b o, ao = some ⟨b, o, none⟩ ∧ w.cell? ⟨b, o + k, none⟩ = some (.int .i64 (l.getD k 0))
theorem Ri.nil (w : World) (ao : Option Addr) : Ri w ao [] := fun k h => by simp at h
theorem Ri.below {w w' : World} {ao : Option Addr} {l : List Int} (h : Ri w ao l) (hb : Below w.heap.size w w') : Ri w' ao l := fun k hk => by
  obtain ⟨b, o, h1, h2⟩ := h k hk
  exact ⟨b, o, h1, (hb.cell (p := ⟨b, o + k, none⟩) (World.block_lt_of_cell? w _ h2)).trans h2⟩
set_option maxHeartbeats 400000 in
/-- distraintkit.SameInts. -/
theorem sameInts_any (ao bo : Option Addr) (l m : List Int) (c d : Nat) (w : World) (hl : Ri w ao l) (hm : Ri w bo m) (nl : l.length ≤ 9223372036854775807) (nm : m.length ≤ 9223372036854775807) :
    Calls Try.prog 47 #[.slice ao l.length c, .slice bo m.length d] w fun e w' => e = .returned (.bool (decide (l = m))) ∧ ∃ n, w' = w.drewN n := by
  by_cases hlen : l.length = m.length
  · have hq : ((l.length : Int) == (m.length : Int)) = true := beq_iff_eq.2 (by omega)
    have HL := Lib.hid hlen
    clear hlen
    go_enter Try.func47, Try.ntmps47
    go_wp2_with fail
    go_loopw [5, 6] (fun s i wr => ∃ k n : Nat, k ≤ l.length ∧ i = .int .i64 k ∧ wr = w.drewN n ∧ ((s = .bool true ∧ l.take k = m.take k) ∨ (s = .bool false ∧ l ≠ m)))
      (fun _ i _ => l.length - (intOf i).toNat)
    case atStart => exact ⟨0, 0, Nat.zero_le _, rfl, rfl, .inl ⟨rfl, rfl⟩⟩
    case round =>
      obtain ⟨k, n, hk, rfl, rfl, ⟨rfl, ht⟩ | ⟨rfl, hne⟩⟩ := hrel
      · have HT := Lib.hid ht
        clear ht
        by_cases hlt : k < l.length
        · have hlt' : k < m.length := by have := HL.out; omega
          obtain ⟨b, o, rfl, hc⟩ := hl k hlt
          obtain ⟨b', o', rfl, hc'⟩ := hm k hlt'
          have H1 := Lib.hid (fun h => take_eq hlt HL.out HT.out h)
          have H2 := Lib.hid (@take_ne l m k)
          generalize l.getD k 0 = x at *
          generalize m.getD k 0 = y at *
          by_cases hxy : x = y
          · subst hxy
            go_wp2_with fail
            go_quiet (fail)
            go_wp2
            go_roundw
            case rel => exact ⟨k + 1, n + _, by omega, by go_num, rfl, .inl ⟨rfl, H1.out (by simp)⟩⟩
            case measure => simp [intOf]; omega
          · have hb : (x == y) = false := by simpa using hxy
            go_wp2_with fail
            go_quiet (fail)
            go_wp2
            go_roundw
            case rel => exact ⟨k + 1, n + _, by omega, by go_num, rfl, .inr ⟨rfl, H2.out hxy⟩⟩
            case measure => simp [intOf]; omega
        · have he : l = m := by
            have h1 := HT.out
            have h2 := HL.out
            rwa [List.take_of_length_le (by omega), List.take_of_length_le (by omega)] at h1
          have HE := Lib.hid he
          clear he
          go_wp2
          go_ret
          exact ⟨by simp [HE.out], n, rfl⟩
      · have hd : decide (l = m) = false := by simpa using hne
        have HD := Lib.hid hd
        clear hd hne
        go_wp2
        go_ret
        exact ⟨by rw [HD.out]; rfl, n, rfl⟩
  · have hq : ((l.length : Int) == (m.length : Int)) = false := by rw [beq_eq_false_iff_ne]; omega
    have hd : decide (l = m) = false := by simp; intro e; exact hlen (by rw [e])
    have HD := Lib.hid hd
    clear hlen hd
    go_enter Try.func47, Try.ntmps47
    go_wp2_with fail
    refine wp_loop_rounds 1 ?_
    rw [rounds_succ]
    go_wp2
    go_ret
    exact ⟨by rw [HD.out]; rfl, 0, rfl⟩

set_option maxHeartbeats 400000 in
/-- distraintkit.OverInts. -/
theorem overInts_any (g n cap : Nat) (xs : List Value) (base : Nat) (w : World) (hown : w.ownsRow base 3 1 (.slice (some ⟨g, 0, none⟩) n cap) n xs) (nl : n ≤ 9223372036854775807) :
    Calls Try.prog 49 #[.slice (some ⟨g, 0, none⟩) n cap] w fun e w' => e = .returned (.tuple #[]) ∧ w.grownBy w' (some g) := by
  go_enter Try.func49, Try.ntmps49
  go_wp2_with fail
  go_loopw [2] (fun i wr => ∃ (k : Nat) (ys : List Value), k ≤ n ∧ i = .int .i64 k ∧ wr.ownsRow base 3 1 (.slice (some ⟨g, 0, none⟩) n cap) n ys ∧ w.grownBy wr (some g)) (fun i _ => n - (intOf i).toNat)
  case atStart => exact ⟨0, xs, Nat.zero_le _, rfl, hown, ⟨rfl, rfl, rfl, Nat.le_refl _, fun _ _ _ => rfl⟩⟩
  case round =>
    obtain ⟨k, ys, hk, rfl, ho, hg⟩ := hrel
    have hlen : ys.length = n * 1 := ho.1
    by_cases hlt : k < n
    · have hc := ho.cellAt k (by omega)
      rw [List.getElem?_eq_getElem (by omega)] at hc
      generalize ys[k]'(by omega) = y at hc
      have hf := ho.frozenAt k
      have hst := ho.stored k (.int .i64 (-77))
      have HS := Lib.hid hst
      have HO := Lib.hid ho
      have HG := Lib.hid hg
      clear hst ho hg hlen hown
      go_wp2
      go_roundw
      case rel => exact ⟨k + 1, _, by omega, by go_num, HS.out.1, grownBy_trans HG.out HS.out.2⟩
      case measure => simp [intOf]; omega
    · have HG := Lib.hid hg
      clear hg ho hown hlen
      go_wp2
      go_end0
      exact ⟨rfl, HG.out⟩
end Go.Proofs.Ytkpfnonacebmkaa
