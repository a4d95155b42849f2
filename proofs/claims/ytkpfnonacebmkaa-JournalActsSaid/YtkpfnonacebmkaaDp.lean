/- JournalDeep. -/
import Derived.Test.YtkpfnonacebmkaaAl
import Derived.Test.YtkpfnonacebmkaaOp
import Derived.Test.YtkpfnonacebmkaaAw
namespace Go.Proofs.Ytkpfnonacebmkaa
open Go.RowKit

def KS.new (n : Nat) : KS := ⟨List.replicate n 0, []⟩
theorem Pr.new {W w1 w2 : World} {M F F2 : Nat → Prop} {rj rk n : Nat} (hj : Jn w1 M F rj (JS.new n)) (hf : ∀ k, F k → W.heap.size ≤ k) (hb : Below W.heap.size W w1) (hk : Kn w2 F2 rk (KS.new n)) (hf2 : ∀ k, F2 k → w1.heap.size ≤ k) (hb2 : Below w1.heap.size w1 w2) :
    Pr W rj rk (JS.new n) (KS.new n) w2 :=
  ⟨M, F, F2, hj.below hb2, hk, hf, fun k h => Nat.le_trans hb.size (hf2 k h), hb.trans (hb2.mono hb.size), fun k h h2 => by have h3 := hf2 k h2; have h4 := hj.flr k h; omega, JK.new n⟩

set_option maxRecDepth 100000 in
set_option maxHeartbeats 3200000 in
theorem journalDeep_any (W : World) (n depth : Int) (hn : I64 n) : Calls Try.prog 3 #[.int .i64 n, .int .i64 depth] W fun e w' => e = .returned (.bool true) ∧ Below W.heap.size W w' := by
  have HP := Lib.hid (fun w => pick_at n 71 w hn (by omega) (by omega))
  have hp0 : 0 ≤ n % 71 := Int.emod_nonneg _ (by omega)
  have hp1 : n % 71 < 71 := Int.emod_lt_of_pos _ (by omega)
  obtain ⟨N, hN⟩ : ∃ N : Nat, n % 71 = N := ⟨(n % 71).toNat, by omega⟩
  rw [hN] at HP hp1
  clear hn hp0 hN
  go_enter Try.func3, Try.ntmps3
  go_wp2_with fail
  refine (new_near 2 W (by omega) (by omega)).mono ?_
  rintro e w1 ⟨rj, M, F, rfl, hj, hf, hb⟩
  have HJ := Lib.hid hj
  have HF := Lib.hid hf
  have HB := Lib.hid hb
  clear hj hf hb
  go_wp2_with fail
  refine (kNew_near 2 w1 (by omega) (by omega)).mono ?_
  rintro e w2 ⟨rk, F2, rfl, hk, hf2, hb2⟩
  have H2 := Lib.hid (Pr.new HJ.out HF.out HB.out hk hf2 hb2)
  clear hk hf2 hb2 HJ HF HB
  go_wp2_with fail
  go_loopw [9, 10, 11, 12, 13] (fun i _ _ _ _ wr => ∃ (k : Nat) (J : JS) (K : KS), k ≤ N ∧ i = .int .i64 k ∧ Pr W rj rk J K wr ∧ K.tot ≤ 2 * k) (fun i _ _ _ _ _ => N - (RowKit.intOf i).toNat)
  case atStart => exact ⟨0, _, _, Nat.zero_le _, rfl, H2.out, by simp [KS.tot, KS.new]⟩
  case round =>
    clear H2
    obtain ⟨k, J, K, hkN, rfl, hpr, ht⟩ := hrel
    have H := Lib.hid hpr
    by_cases hlt : k < N
    · have hjk := hpr.jk.begin
      have e1 : J.begin.2 = K.begin.2 := hjk.1
      have HBj := hpr.ps.beginj
      rw [e1] at HBj
      have HBj := Lib.hid HBj
      have HJK1 := Lib.hid hjk.2
      have HBk := Lib.hid (fun (w : World) (h : Ps W rj rk J.begin.1 K w) => h.begink)
      have ht1 : K.begin.1.tot ≤ 2 * k := Nat.le_trans K.tot_begin ht
      generalize J.begin.1 = J1 at *
      generalize K.begin.1 = K1 at *
      generalize K.begin.2.1 = lv at *
      generalize K.begin.2.2 = er at *
      have hc := HJK1.out.chg 1 1 addR
      have e2 := hc.1
      have HC := Lib.hid hc.2
      have ht2 : (K1.chg 1 1 addR).1.tot ≤ 2 * (k + 1) := by have h := K1.tot_does 1 1 0 1; have e : K1.does 1 1 0 1 = K1.chg 1 1 addR := rfl; rw [e] at h; omega
      have HAj := Lib.hid (fun (w : World) (h : Ps W rj rk J1 K1 w) => e2 ▸ h.addj 1 (n := 1) ⟨by omega, by omega⟩)
      have HAk := Lib.hid (fun (w : World) (h : Ps W rj rk (J1.chg 1 1 addR).1 K1 w) => h.addk 1 (n := 1) ⟨by omega, by omega⟩ (by omega))
      have HT := Lib.hid ht2
      clear hpr hjk e1 hc e2 ht ht1 ht2 H
      go_wp2_with fail
      refine (HP.out _).mono ?_
      rintro e w' ⟨rfl, rfl⟩
      go_wp2_with fail
      refine HBj.out.mono ?_
      rintro e w3 ⟨rfl, h3⟩
      have HBk3 := Lib.hid (HBk.out w3 h3)
      clear h3
      go_wp2_with fail
      refine HBk3.out.mono ?_
      rintro e w4 ⟨rfl, h4⟩
      have HAj4 := Lib.hid (HAj.out w4 h4)
      clear h4
      go_wp2_with fail
      refine HAj4.out.mono ?_
      rintro e w5 ⟨rfl, h5⟩
      have HAk5 := Lib.hid (HAk.out w5 h5)
      clear h5
      generalize (K1.chg 1 1 addR).2 = er2 at *
      go_wp2_with fail
      refine HAk5.out.mono ?_
      rintro e w6 ⟨rfl, h6⟩
      have H6 := Lib.hid (h6.pr HC.out)
      clear h6
      go_wp2_with fail
      refine (alike_any H6.out 1 (by have := HT.out; omega)).mono ?_
      rintro e w7 ⟨rfl, hb⟩
      have H7 := Lib.hid (H6.out.below hb)
      clear hb
      go_wp2_with fail
      go_roundw
      case rel => exact ⟨k + 1, _, _, by omega, by go_num, H7.out, HT.out⟩
      case measure => simp [RowKit.intOf]; omega
    · obtain rfl : k = N := by omega
      have hb := hpr.jk.back depth
      have e1 := hb.1
      have HC := Lib.hid hb.2
      have ht2 : (K.back depth).1.tot ≤ 2 * k + 2 := by have h := K.tot_does 7 depth 0 0; have e : K.does 7 depth 0 0 = K.back depth := rfl; rw [e] at h; omega
      have HT := Lib.hid ht2
      have HBj := hpr.ps.backj depth
      rw [e1] at HBj
      have HBj := Lib.hid HBj
      have HBk := Lib.hid (fun (w : World) (h : Ps W rj rk (J.back depth).1 K w) => h.backk depth)
      clear hpr hb e1 ht ht2 H hlt
      generalize (K.back depth).2 = er at *
      go_wp2_with fail
      refine (HP.out _).mono ?_
      rintro e w' ⟨rfl, rfl⟩
      go_wp2_with fail
      refine HBj.out.mono ?_
      rintro e w3 ⟨rfl, h3⟩
      have HBk3 := Lib.hid (HBk.out w3 h3)
      clear h3
      go_wp2_with fail
      refine HBk3.out.mono ?_
      rintro e w4 ⟨rfl, h4⟩
      have H4 := Lib.hid (h4.pr HC.out)
      clear h4
      go_wp2_with fail
      refine (alike_any H4.out 1 (by have := HT.out; omega)).mono ?_
      rintro e w5 ⟨rfl, hb⟩
      have H5 := Lib.hid (H4.out.below hb)
      clear hb
      go_wp2_with fail
      refine (awake_any w5).mono ?_
      rintro e w6 ⟨rfl, hb⟩
      have H6 := Lib.hid (H5.out.base.trans (hb.mono H5.out.base.size))
      clear hb
      go_wp2_with fail
      go_ret
      exact ⟨rfl, H6.out⟩
end Go.Proofs.Ytkpfnonacebmkaa
