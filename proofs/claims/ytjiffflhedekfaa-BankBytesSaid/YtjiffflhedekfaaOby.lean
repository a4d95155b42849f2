/- distraintkit.OverBytes. -/
import Derived.Test.YtjiffflhedekfaaBm2
import Derived.Test.YtjiffflhedekfaaByt
namespace Go.Proofs.Ytjiffflhedekfaa
open Go.RowKit

set_option maxHeartbeats 800000 in
theorem overB_some (g n cap : Nat) (l : List Int) (base : Nat) (w : World) (hn : l.length = n) (hown : w.ownsRow base 5 1 (.slice (some ⟨g, 0, none⟩) n cap) n (l.map (Value.int .u8))) (nl : n ≤ 9223372036854775807) :
    Calls Try.prog 31 #[.slice (some ⟨g, 0, none⟩) n cap] w fun e w' => e = .returned (.tuple #[]) ∧ w.grownBy w' (some g) := by
  go_enter Try.func31, Try.ntmps31
  go_wp2_with fail
  go_loopw [2] (fun i wr => ∃ (k : Nat) (zs : List Int), k ≤ n ∧ zs.length = n ∧ i = .int .i64 k ∧ wr.ownsRow base 5 1 (.slice (some ⟨g, 0, none⟩) n cap) n (zs.map (Value.int .u8)) ∧ w.grownBy wr (some g)) (fun i _ => n - (intOf i).toNat)
  case atStart => exact ⟨0, l, Nat.zero_le _, hn, rfl, hown, ⟨rfl, rfl, rfl, Nat.le_refl _, fun _ _ _ => rfl⟩⟩
  case round =>
    clear hown
    obtain ⟨k, zs, hk, hz, rfl, ho, hg⟩ := hrel
    by_cases hlt : k < n
    · have hc := ho.cellAt k (by omega)
      rw [List.getElem?_map, List.getElem?_eq_getElem (by omega), Option.map_some] at hc
      generalize zs[k]'(by omega) = y at hc
      have hf := ho.frozenAt k
      have HS := Lib.hid (fun v => ho.stored k (.int .u8 v))
      have HO := Lib.hid ho
      have HG := Lib.hid hg
      clear ho hg
      go_wp2
      go_roundw
      case rel => exact ⟨k + 1, zs.set k (bits .xor .u8 y 165), by omega, by rw [List.length_set]; exact hz, by go_num, by rw [List.map_set]; exact (HS.out _).1, grownBy_trans HG.out (HS.out _).2⟩
      case measure => simp [intOf]; omega
    · have HG := Lib.hid hg
      clear hg ho
      go_wp2
      go_end0
      exact ⟨rfl, HG.out⟩
theorem overBytes_any {w : World} {base : Nat} {g cap : Nat} {l : List Int} (h : OwnY w base (some ⟨g, 0, none⟩) cap l) (nl : l.length ≤ 9223372036854775807) :
    Calls Try.prog 31 #[.slice (some ⟨g, 0, none⟩) l.length cap] w fun e w' => e = .returned (.tuple #[]) ∧ w.grownBy w' (some g) :=
  overB_some g l.length cap l base w rfl h nl
end Go.Proofs.Ytjiffflhedekfaa
