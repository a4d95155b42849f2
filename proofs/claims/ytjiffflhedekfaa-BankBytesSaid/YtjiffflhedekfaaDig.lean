/- codec.digits: the bytes of a number, handed on one by one. -/
import Derived.Test.YtjiffflhedekfaaRng
import Derived.Test.YtjiffflhedekfaaSp
import Derived.Test.YtjiffflhedekfaaProg
import Derived.RangeFuncNested
import Derived.RangeFuncBound
import Derived.RangeFuncCalls
import Derived.Shelf.Abstract
import Derived.Shelf.RegionOpen
import Derived.WalkKit
import Derived.WalkSpells
import Derived.WalkLawsBesides
import Derived.OwnWalkIn
import Derived.TacticsInMore
import Derived.LoopNIn
import Derived.LoopIn
import Derived.Laws.BitsAllLaws
namespace Go.Proofs.Ytjiffflhedekfaa
open Go.RowKit Go.Shelf
attribute [local go_sem] Oper.semAt_some

/-- A number's bytes, by seven bits, the lowest first. -/
def putF : Nat → Int → List Int
  | 0, n => [n]
  | f + 1, n => if 128 ≤ n then (n % 128 + 128) :: putF f (n / 128) else [n]
def putL (n : Int) : List Int := putF 9 n
/-- What the variable holds. -/
def boxN (W : World) (B : Nat) : Nat := match W.cell? ⟨B, 0, none⟩ with | some (.int _ k) => k.toNat | _ => 0
theorem boxN_of {W : World} {B : Nat} {k : Int} (h : Boxed W B 23 (.int .u64 k)) : boxN W B = k.toNat := by unfold boxN; rw [h.cell]

theorem or_nat : ∀ a, a < 256 → a ||| 128 = a % 128 + 128 := by decide +kernel
theorem or_byte (k : Int) (h : 0 ≤ k) : bits .or .u8 (k % 256) 128 = k % 128 + 128 := by
  have h1 : 0 ≤ k % 256 ∧ k % 256 < 256 := by omega
  rw [u8_or _ _ h1.1 h1.2 (by omega) (by omega)]
  have := or_nat (k % 256).toNat (by omega)
  rw [show ((128 : Int)).toNat = 128 from rfl, this]
  omega
theorem pow_step {k : Int} {f : Nat} (h : k < 2 * 128 ^ (f + 1)) : k / 128 < 2 * 128 ^ f := by
  have e : (128 : Int) ^ (f + 1) = 128 ^ f * 128 := Int.pow_succ ..
  omega

set_option maxRecDepth 100000 in
set_option maxHeartbeats 1000000 in
theorem digits1_in (F : Fence) (m : Nat) (h91 : F.fn 91) (hro : F.round = none) (hm : 1 ≤ m) (l Bn : Nat) (n : Int) (hn : W64 n) (J : List Int → World → Prop)
    (hJ : ∀ s W v, J s W → J s (W.setCell ⟨Bn, 0, none⟩ v))
    (hY : ∀ pre x W1, J pre W1 → pre.length < (putL n).length → YieldAt F (m - 1) Try.prog l #[.int .u8 x] W1 fun e W' => e = .returned (.bool true) ∧ J (pre ++ [x]) W' ∧ W'.heap[Bn]? = W1.heap[Bn]?)
    (W : World) (hB : Boxed W Bn 23 (.int .u64 n)) (h0 : J [] W) :
    CallsIn F m Try.prog 91 #[.func (.yield l) #[] #[], .pointer (some ⟨Bn, 0, none⟩)] W fun e W' => (∃ v, e = .returned v) ∧ J (putL n) W' := by
  have HJ := Lib.hid hJ
  have HY := Lib.hid hY
  clear hJ hY
  refine callsIn_of_wp Try.func91 rfl h91 ?_ hro
  simp only [Try.ntmps91, List.size_toArray, List.length_cons, List.length_nil, Nat.reduceAdd, Nat.reduceSub, Array.replicate_succ, Array.replicate_zero, List.push_toArray, List.append_toArray, List.nil_append, List.cons_append]
  gi_wp2
  gi_loopw [] (fun wr => ∃ (pre : List Int) (f : Nat) (k : Int), putL n = pre ++ putF f k ∧ 0 ≤ k ∧ k < 2 * 128 ^ f ∧ Boxed wr Bn 23 (.int .u64 k) ∧ J pre wr)
    (fun wr => boxN wr Bn)
  case atStart => exact ⟨[], 9, n, rfl, hn.1, by have := hn.2; omega, hB, h0⟩
  case round =>
    obtain ⟨pre, f, k, hp, hk0, hkf, hb, hj⟩ := hrel
    by_cases hge : 128 ≤ k
    · cases f with
      | zero => exfalso; simp at hkf; omega
      | succ f =>
        have hb0 := hb.cell
        have hf0 := hb.frozen
        rw [putF, if_pos hge] at hp
        obtain ⟨fn, tmps, assign, body, hy, hR⟩ := HY.out pre (k % 128 + 128) wr hj (by rw [hp]; simp)
        have HP := Lib.hid hp
        have HK := Lib.hid hkf
        clear hp hkf
        have hor := or_byte k hk0
        gi_wp2
        refine hR.mono ?_
        clear hR hy hb0 hf0
        rintro e W3 ⟨rfl, hJ3, hk3⟩
        have hb3 : Boxed W3 Bn 23 (.int .u64 k) := hk3.trans hb
        have hb0 := hb3.cell
        have hf0 := hb3.frozen
        gi_wp2
        go_roundw
        case rel => exact ⟨pre ++ [k % 128 + 128], f, k / 128, by rw [HP.out]; simp, by omega, pow_step HK.out, hb3.set _, HJ.out _ _ _ hJ3⟩
        case measure => rw [boxN_of (hb3.set _), boxN_of hb]; omega
    · have hb0 := hb.cell
      have hx : putF f k = [k] := by
        cases f with
        | zero => rfl
        | succ f => rw [putF, if_neg hge]
      rw [hx] at hp
      obtain ⟨fn, tmps, assign, body, hy, hR⟩ := HY.out pre k wr hj (by rw [hp]; simp)
      have HP := Lib.hid hp
      clear hp hkf hx
      have hlt : k < 128 := by omega
      have hmod : k % 256 = k := by omega
      gi_wp2
      refine hR.mono ?_
      clear hR hy hb0
      rintro e W3 ⟨rfl, hJ3, hk3⟩
      gi_wp2
      go_end0
      exact ⟨⟨_, rfl⟩, by rw [HP.out]; exact hJ3⟩

theorem digits_cell (F : Fence) (m : Nat) (h91 : F.fn 91) (hro : F.round = none) (hm : 1 ≤ m) (Bn : Nat) (n : Int) (hn : W64 n) (w : World) (hB : Boxed w Bn 23 (.int .u64 n)) :
    SeqCell F m Try.prog 91 #[.pointer (some ⟨Bn, 0, none⟩)] (Value.int .u8) Bn (putL n) w := fun l J W hW hJ hY h0 =>
  digits1_in F m h91 hro hm l Bn n hn J hJ hY W ((hW.block Bn hB.lt).trans hB) h0
end Go.Proofs.Ytjiffflhedekfaa
