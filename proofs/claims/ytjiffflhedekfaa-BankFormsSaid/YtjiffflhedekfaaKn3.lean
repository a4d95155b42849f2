/- BankKnown: the walk. -/
import Derived.Test.YtjiffflhedekfaaKn2
namespace Go.Proofs.Ytjiffflhedekfaa
open Go.RowKit

/-- How memory stands: the chapter's bank in a variable. -/
structure Kn (w W : World) (b : Nat) (ao : Option Addr) (c : Nat) : Prop where
  below : Below w.heap.size w W
  v : Var w W b Bc ao c
theorem Kn.step {w W W' : World} {b : Nat} {ao : Option Addr} {c : Nat} (h : Kn w W b ao c) (hb : Below W.heap.size W W') : Kn w W' b ao c := ⟨h.below.trans (hb.mono h.below.size), h.v.step hb⟩
theorem Kn.five {w W : World} {b : Nat} {ao : Option Addr} {c : Nat} (h : Kn w W b ao c) : W.cell? ⟨b, 0, none⟩ = some (.slice ao 2 c) ∧ W.cell? ⟨b, 1, none⟩ = some (.int .u64 30) ∧ W.cell? ⟨b, 2, none⟩ = some (.int .u64 0) ∧ W.cell? ⟨b, 3, none⟩ = some (.int .u64 0) ∧ W.cell? ⟨b, 4, none⟩ = some (.int .u64 0) ∧ b < W.heap.size := by
  obtain ⟨h0, h1, h2, h3, h4, _⟩ := Go.Proofs.Ytjiffflhedekfaa.five h.v.hb
  exact ⟨h0, h1, h2, h3, h4, lt_of_block h.v.hb⟩
theorem Var.fived {w W : World} {b : Nat} {ao : Option Addr} {c : Nat} (h : Var w W b Bd ao c) : W.cell? ⟨b, 0, none⟩ = some (.slice ao 2 c) ∧ W.cell? ⟨b, 1, none⟩ = some (.int .u64 20) ∧ W.cell? ⟨b, 2, none⟩ = some (.int .u64 0) ∧ W.cell? ⟨b, 3, none⟩ = some (.int .u64 10) ∧ W.cell? ⟨b, 4, none⟩ = some (.int .u64 0) ∧ b < W.heap.size := by
  obtain ⟨h0, h1, h2, h3, h4, _⟩ := Go.Proofs.Ytjiffflhedekfaa.five h.hb
  exact ⟨h0, h1, h2, h3, h4, lt_of_block h.hb⟩
theorem Var.fivec {w W : World} {b : Nat} {ao : Option Addr} {c : Nat} (h : Var w W b Bc ao c) : W.cell? ⟨b, 0, none⟩ = some (.slice ao 2 c) ∧ W.cell? ⟨b, 1, none⟩ = some (.int .u64 30) ∧ W.cell? ⟨b, 2, none⟩ = some (.int .u64 0) ∧ W.cell? ⟨b, 3, none⟩ = some (.int .u64 0) ∧ W.cell? ⟨b, 4, none⟩ = some (.int .u64 0) ∧ b < W.heap.size := by
  obtain ⟨h0, h1, h2, h3, h4, _⟩ := Go.Proofs.Ytjiffflhedekfaa.five h.hb
  exact ⟨h0, h1, h2, h3, h4, lt_of_block h.hb⟩

set_option maxRecDepth 100000 in
set_option maxHeartbeats 8000000 in
/-- distraintlaw09.BankKnown. -/
theorem bankKnown_any (w : World) : Calls Try.prog 5 #[] w fun e w' => e = .returned (.bool true) ∧ Below w.heap.size w w' := by
  go_enter Try.func5, Try.ntmps5
  go_wp2_with fail
  refine (chapter_any w).mono ?_
  rintro e w1 ⟨ao, c, rfl, hown, hb⟩
  have HK := Lib.hid (⟨hb.alloc hb.size (.cells #[.slice ao 2 c, .int .u64 30, .int .u64 0, .int .u64 0, .int .u64 0] 26), heap_at w1 (.cells #[.slice ao 2 c, .int .u64 30, .int .u64 0, .int .u64 0, .int .u64 0] 26) rfl, hown.alloc _⟩ : Kn w (w1.alloc (.cells #[.slice ao 2 c, .int .u64 30, .int .u64 0, .int .u64 0, .int .u64 0] 26)) w1.heap.size ao c)
  clear hown hb
  obtain ⟨b1, hb1⟩ : ∃ b1, w1.heap.size = b1 := ⟨_, rfl⟩
  rw [hb1] at HK
  have HB1 := Lib.hid hb1
  clear hb1
  go_wp2_with fail
  refine (c_have0 ao c _ (by have := HK.out.v.own.rd; exact this)).mono ?_
  rintro e w2 ⟨rfl, hb⟩
  have HK := Lib.hid (HK.out.step hb)
  rw [HB1.out] at *
  clear hb
  obtain ⟨a0, a1, a2, a3, a4, a5⟩ := HK.out.five
  go_wp2_with fail
  refine (c_have2 ao c _ HK.out.v.own.rd).mono ?_
  clear a0 a1 a2 a3 a4 a5
  rintro e w3 ⟨rfl, hb⟩
  have hbb := hb
  have HK := Lib.hid (HK.out.step hbb)
  clear hb hbb
  obtain ⟨a0, a1, a2, a3, a4, a5⟩ := HK.out.five
  go_wp2_with fail
  refine (c_total ao c _ HK.out.v.own.rd).mono ?_
  clear a0 a1 a2 a3 a4 a5
  rintro e w4 ⟨rfl, hb⟩
  have hbb := hb
  have HK := Lib.hid (HK.out.step hbb)
  clear hb hbb
  obtain ⟨a0, a1, a2, a3, a4, a5⟩ := HK.out.five
  go_wp2_with fail
  refine (c_e1 ao c _ HK.out.v.own.rd).mono ?_
  clear a0 a1 a2 a3 a4 a5
  rintro e w5 ⟨rfl, hb⟩
  have hbb := hb
  have HK := Lib.hid (HK.out.step hbb)
  clear hb hbb
  obtain ⟨a0, a1, a2, a3, a4, a5⟩ := HK.out.five
  go_wp2_with fail
  refine (c_e2 ao c _ HK.out.v.own.rd).mono ?_
  clear a0 a1 a2 a3 a4 a5
  rintro e w6 ⟨rfl, hb⟩
  have hbb := hb
  have HK := Lib.hid (HK.out.step hbb)
  clear hb hbb
  obtain ⟨a0, a1, a2, a3, a4, a5⟩ := HK.out.five
  go_wp2_with fail
  refine (c_e3 ao c _ HK.out.v.own.rd).mono ?_
  clear a0 a1 a2 a3 a4 a5
  rintro e w7 ⟨rfl, hb⟩
  have hbb := hb
  have HK := Lib.hid (HK.out.step hbb)
  clear hb hbb
  obtain ⟨a0, a1, a2, a3, a4, a5⟩ := HK.out.five
  go_wp2_with fail
  refine (c_e4 ao c _ HK.out.v.own.rd).mono ?_
  clear a0 a1 a2 a3 a4 a5
  rintro e w8 ⟨rfl, hb⟩
  have hbb := hb
  have HK := Lib.hid (HK.out.step hbb)
  clear hb hbb
  obtain ⟨a0, a1, a2, a3, a4, a5⟩ := HK.out.five
  go_wp2_with fail
  refine (c_burn ao c _ HK.out.v.own.rd).mono ?_
  clear a0 a1 a2 a3 a4 a5
  rintro e w9 ⟨ad, cd, rfl, hown, hb⟩
  have hbb := hb
  have HK0 := Lib.hid (HK.out.step hbb)
  have hlo := HK.out.below.size
  have HK := Lib.hid ((HK.out.step hbb).step ((Below.refl _ _).alloc (Nat.le_refl _) (.cells #[.slice ad 2 cd, .int .u64 20, .int .u64 0, .int .u64 10, .int .u64 0] 26)))
  have HD := Lib.hid (⟨heap_at w9 (.cells #[.slice ad 2 cd, .int .u64 20, .int .u64 0, .int .u64 10, .int .u64 0] 26) rfl, (hown.mono hlo).alloc _⟩ : Var w (w9.alloc (.cells #[.slice ad 2 cd, .int .u64 20, .int .u64 0, .int .u64 10, .int .u64 0] 26)) w9.heap.size Bd ad cd)
  obtain ⟨bd, hbd⟩ : ∃ bd, w9.heap.size = bd := ⟨_, rfl⟩
  rw [hbd] at HD
  have HBD := Lib.hid hbd
  clear hbd hb hbb hown hlo
  obtain ⟨a0, a1, a2, a3, a4, a5⟩ := (show Kn w w9 b1 ao c from HK0.out).five
  go_wp2_with fail
  refine (c_pay ao c _ HK.out.v.own.rd).mono ?_
  clear a0 a1 a2 a3 a4 a5
  rintro e w10 ⟨ac3, c3, rfl, hown, hb⟩
  have hlo := HK.out.below.size
  rw [HBD.out] at *
  have HC := Lib.hid (⟨heap_at w10 (.cells #[.slice ac3 2 c3, .int .u64 30, .int .u64 0, .int .u64 0, .int .u64 0] 26) rfl, (hown.mono hlo).alloc _⟩ : Var w (w10.alloc (.cells #[.slice ac3 2 c3, .int .u64 30, .int .u64 0, .int .u64 0, .int .u64 0] 26)) w10.heap.size Bc ac3 c3)
  have HK0 := Lib.hid (HK.out.step hb)
  have HD0 := Lib.hid (HD.out.step hb)
  have HK := Lib.hid (HK0.out.step ((Below.refl _ _).alloc (Nat.le_refl _) (.cells #[.slice ac3 2 c3, .int .u64 30, .int .u64 0, .int .u64 0, .int .u64 0] 26)))
  have HD := Lib.hid (HD0.out.step ((Below.refl _ _).alloc (Nat.le_refl _) (.cells #[.slice ac3 2 c3, .int .u64 30, .int .u64 0, .int .u64 0, .int .u64 0] 26)))
  obtain ⟨b3, hb3⟩ : ∃ b3, w10.heap.size = b3 := ⟨_, rfl⟩
  rw [hb3] at HC
  have HB3 := Lib.hid hb3
  clear hb3 hb hown hlo
  obtain ⟨d0, d1, d2, d3, d4, d5⟩ := HD0.out.fived
  go_wp2_with fail
  refine (c_e5 ad cd _ HD.out.own.rd).mono ?_
  clear d0 d1 d2 d3 d4 d5
  rintro e w11 ⟨rfl, hb⟩
  rw [HB3.out] at *
  have hbb := hb
  have HK := Lib.hid (HK.out.step hbb)
  have HC := Lib.hid (HC.out.step hbb)
  clear hb hbb
  obtain ⟨a0, a1, a2, a3, a4, a5⟩ := HK.out.five
  go_wp2_with fail
  refine (c_e6 ao c _ HK.out.v.own.rd).mono ?_
  clear a0 a1 a2 a3 a4 a5
  rintro e w12 ⟨rfl, hb⟩
  have hbb := hb
  have HK := Lib.hid (HK.out.step hbb)
  have HC := Lib.hid (HC.out.step hbb)
  clear hb hbb
  obtain ⟨a0, a1, a2, a3, a4, a5⟩ := HK.out.five
  obtain ⟨x0, x1, x2, x3, x4, x5⟩ := HC.out.fivec
  go_wp2_with fail
  refine (c_same ac3 ao c3 c _ HC.out.own.rd HK.out.v.own.rd).mono ?_
  clear a0 a1 a2 a3 a4 a5 x0 x1 x2 x3 x4 x5
  rintro e w13 ⟨rfl, hb⟩
  have hbb := hb
  have HK := Lib.hid (HK.out.step hbb)
  clear hb hbb
  clear HC HD HD0 HK0
  go_wp2_with fail
  refine (c_w1 _ _ _ (Rd.nil _ _)).mono ?_
  rintro e w14 ⟨rfl, hb⟩
  have hbb := hb
  have HK := Lib.hid (HK.out.step hbb)
  clear hb hbb
  have hmk := mk65
  go_wp2_with fail
  refine (c_w2 _ _ _ (rd_block (by rw [← zeros65_eq]; exact heap_at _ _ rfl))).mono ?_
  rintro e w15 ⟨rfl, hb⟩
  have hbb := ((Below.refl _ _).alloc (Nat.le_refl _) (.cells zeros65 23)).trans (hb.mono (by simp))
  have HK := Lib.hid (HK.out.step hbb)
  clear hb hbb
  clear hmk
  go_wp2_with fail
  refine (c_w3 _ _ _ (rd_block (heap_at _ _ rfl))).mono ?_
  rintro e w16 ⟨rfl, hb⟩
  have hbb := ((Below.refl _ _).alloc (Nat.le_refl _) (.cells #[.int .u64 4611686018427387904, .int .u64 1] 23)).trans (hb.mono (by simp))
  have HK := Lib.hid (HK.out.step hbb)
  clear hb hbb
  go_wp2_with fail
  refine (c_w4 _ _ _ (rd_block (heap_at _ _ rfl))).mono ?_
  rintro e w17 ⟨rfl, hb⟩
  have hbb := ((Below.refl _ _).alloc (Nat.le_refl _) (.cells #[.int .u64 4611686018427387904] 23)).trans (hb.mono (by simp))
  have HK := Lib.hid (HK.out.step hbb)
  clear hb hbb
  go_wp2_with fail
  refine (c_w5 _ _ _ (rd_block (heap_at _ _ rfl))).mono ?_
  rintro e w18 ⟨rfl, hb⟩
  have hbb := ((Below.refl _ _).alloc (Nat.le_refl _) (.cells #[.int .u64 18446744073709551615, .int .u64 18446744073709551615] 23)).trans (hb.mono (by simp))
  have HK := Lib.hid (HK.out.step hbb)
  clear hb hbb
  obtain ⟨a0, a1, a2, a3, a4, a5⟩ := HK.out.five
  go_wp2_with fail
  refine (c_bytes ao c _ HK.out.v.own.rd).mono ?_
  clear a0 a1 a2 a3 a4 a5
  rintro e w19 ⟨g, cap, rfl, hown, hb⟩
  have hbb := hb
  have HY := Lib.hid hown.rb
  clear hown
  have HK := Lib.hid (HK.out.step hbb)
  clear hb hbb
  go_wp2_with fail
  refine (c_sb _ _ _ _ _ (HY.out.alloc _) (rb_block (heap_at _ _ rfl))).mono ?_
  rintro e wz ⟨rfl, hz⟩
  have HK := Lib.hid (HK.out.step (show Below w19.heap.size w19 wz by rw [← hz]; exact (Below.refl _ _).alloc (Nat.le_refl _) _))
  clear hz HY
  go_wp2_with fail
  refine (c_r1 _ _ _ (rb_block (heap_at _ _ rfl))).mono ?_
  rintro e w20 ⟨rfl, hb⟩
  have hbb := ((Below.refl _ _).alloc (Nat.le_refl _) (.cells #[.int .u8 1, .int .u8 0, .int .u8 0, .int .u8 0, .int .u8 0] 5)).trans (hb.mono (by simp))
  have HK := Lib.hid (HK.out.step hbb)
  clear hb hbb
  have hf := f_eq1
  go_wp2_with fail
  refine (c_r2 _ _ _ (rb_block (heap_at _ _ rfl))).mono ?_
  rintro e w21 ⟨rfl, hb⟩
  have hbb := ((Below.refl _ _).alloc (Nat.le_refl _) (.cells #[.int .u8 0] 5)).trans (hb.mono (by simp))
  have HK := Lib.hid (HK.out.step hbb)
  clear hb hbb
  have hf := f_eq2
  go_wp2_with fail
  refine (c_r3 _ _ _ (rb_block (heap_at _ _ rfl))).mono ?_
  rintro e w22 ⟨rfl, hb⟩
  have hbb := ((Below.refl _ _).alloc (Nat.le_refl _) (.cells #[.int .u8 1, .int .u8 0] 5)).trans (hb.mono (by simp))
  have HK := Lib.hid (HK.out.step hbb)
  clear hb hbb
  have hf := f_eq3
  go_wp2_with fail
  refine (awake_any _).mono ?_
  rintro e we ⟨rfl, hb⟩
  have HF := Lib.hid (HK.out.step hb).below
  clear hb
  go_wp2_with fail
  go_ret
  exact ⟨rfl, HF.out⟩
end Go.Proofs.Ytjiffflhedekfaa
