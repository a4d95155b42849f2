/- journal: Get, Set, Add, Sub. -/
import Derived.Test.YtkpfnonacebmkaaPu
namespace Go.Proofs.Ytkpfnonacebmkaa
open Go.RowKit

section
variable {W : World} {M F : Nat → Prop} {r : Nat} {J : JS}
theorem put_any (h : Jn W M F r J) {i : Nat} (hi : i < J.C.length) {n : Int} (hn : W64 n) :
    Calls Try.prog 54 #[.pointer (some ⟨r, 0, none⟩), .int .i64 i, .int .u64 n] W fun e w' => e = .returned (.tuple #[]) ∧ Jst W M F r w' (J.put i n) := by
  cases hL : J.L with
  | nil => exact put_none h hi hn hL
  | cons p L' => obtain ⟨m, T⟩ := p; exact put_some h hi hn hL

theorem add64 (x y : Int) (hx : 0 ≤ x) (hy : 0 ≤ y) (w : World) : (callFunc 64 #[.int .u64 x, .int .u64 y, .int .u64 0]).run Try.prog w =
    .ok (.value (.tuple #[.int .u64 ((x + y) % 18446744073709551616), .int .u64 ((x + y) / 18446744073709551616)])) w := by
  rw [run_callFunc_extern (e := add64Entry) Try.func64 (by kernel_rfl) (by kernel_rfl) (by kernel_rfl) (by kernel_rfl), run_add64 x y 0 hx hy (Int.le_refl 0) (by decide) w]
  simp [Result.andThen]
/-- What 'Add' and 'Sub' tell of two words. -/
def addR (a b : Int) : Int × Int := if 18446744073709551615 < a + b then (0, 12) else (a + b, 0)
def subR (a b : Int) : Int × Int := if a < b then (0, 13) else (a - b, 0)
theorem addR_w {a b : Int} (ha : W64 a) (hb : W64 b) : W64 (addR a b).1 := by
  unfold addR W64 at *; split <;> simp only <;> omega
theorem subR_w {a b : Int} (ha : W64 a) (hb : W64 b) : W64 (subR a b).1 := by
  unfold subR W64 at *; split <;> simp only <;> omega

set_option maxHeartbeats 400000 in
theorem add_any (a b : Int) (ha : W64 a) (hb : W64 b) (w : World) :
    Calls Try.prog 40 #[.int .u64 a, .int .u64 b] w fun e w' => e = .returned (.tuple #[.int .u64 (addR a b).1, .int .i64 (addR a b).2]) ∧ w = w' := by
  obtain ⟨ha, ha'⟩ := ha
  obtain ⟨hb, hb'⟩ := hb
  have h64 := add64 a b ha hb
  by_cases h : 18446744073709551615 < a + b
  · have hd : ((a + b) / 18446744073709551616 != 0) = true := by rw [bne_iff_ne]; omega
    have HR : Hid (addR a b = (0, 12)) := Lib.hid (by unfold addR; rw [if_pos h])
    go_enter Try.func40, Try.ntmps40
    go_wp2
    go_ret2
    rw [HR.out]
    exact ⟨rfl, rfl⟩
  · have hd : ((a + b) / 18446744073709551616 != 0) = false := by
      have : (a + b) / 18446744073709551616 = 0 := by omega
      rw [this]; rfl
    have hm : (a + b) % 18446744073709551616 = a + b := by omega
    have HR : Hid (addR a b = (a + b, 0)) := Lib.hid (by unfold addR; rw [if_neg h])
    go_enter Try.func40, Try.ntmps40
    go_wp2
    go_ret2
    rw [HR.out]
    exact ⟨rfl, rfl⟩
set_option maxHeartbeats 400000 in
theorem sub_any (a b : Int) (ha : W64 a) (hb : W64 b) (w : World) :
    Calls Try.prog 56 #[.int .u64 a, .int .u64 b] w fun e w' => e = .returned (.tuple #[.int .u64 (subR a b).1, .int .i64 (subR a b).2]) ∧ w = w' := by
  obtain ⟨ha, ha'⟩ := ha
  obtain ⟨hb, hb'⟩ := hb
  by_cases h : a < b
  · have HR : Hid (subR a b = (0, 13)) := Lib.hid (by unfold subR; rw [if_pos h])
    go_enter Try.func56, Try.ntmps56
    go_wp2
    go_ret2
    rw [HR.out]
    exact ⟨rfl, rfl⟩
  · have HR : Hid (subR a b = (a - b, 0)) := Lib.hid (by unfold subR; rw [if_neg h])
    have hm : b ≤ a := by omega
    clear h
    go_enter Try.func56, Try.ntmps56
    go_wp2
    go_ret2
    rw [HR.out]
    exact ⟨rfl, rfl⟩

theorem mayE_one (N : Nat) (i : Int) : mayE N [i] = if inB N i then 0 else 3 := by unfold mayE; simp
theorem ri_one (W : World) (i : Int) : Ri (W.alloc (.cells #[.int .i64 i] 3)) (some ⟨W.heap.size, 0, none⟩) [i] := fun k hk => by
  have : k = 0 := by simpa using hk
  subst this
  exact ⟨W.heap.size, 0, rfl, (one (heap_at W _ rfl)).1⟩
/-- The check of one number, as it is made at the head of the acts. -/
theorem may_one (h : Jn W M F r J) (i : Int) : Calls Try.prog 52 #[.pointer (some ⟨r, 0, none⟩), .slice (some ⟨W.heap.size, 0, none⟩) 1 1] (W.alloc (.cells #[.int .i64 i] 3)) fun e w' => e = .returned (.int .i64 (if inB J.C.length i then 0 else 3)) ∧ W.alloc (.cells #[.int .i64 i] 3) = w' := by
  obtain ⟨cb, cc, ps, lv, bs, h⟩ := h
  have h1 := h.below ((Below.refl W.heap.size W).alloc (Nat.le_refl _) (.cells #[.int .i64 i] 3))
  have := may_any h1.hr h.ok.pos (by have := h.ok.most; omega) _ [i] 1 (ri_one W i) (by simp)
  rwa [mayE_one] at this

/-- What Get tells. -/
def JS.get (J : JS) (i : Int) : Int × Int := if inB J.C.length i then (J.C.getD i.toNat 0, 0) else (0, 3)
set_option maxRecDepth 100000 in
set_option maxHeartbeats 800000 in
theorem get_any (h : Jn W M F r J) (i : Int) :
    Calls Try.prog 27 #[.pointer (some ⟨r, 0, none⟩), .int .i64 i] W fun e w' => e = .returned (.tuple #[.int .u64 (J.get i).1, .int .i64 (J.get i).2]) ∧ Below W.heap.size W w' := by
  have HM := may_one h i
  have HB := Lib.hid ((Below.refl W.heap.size W).alloc (Nat.le_refl _) (.cells #[.int .i64 i] 3))
  by_cases hi : inB J.C.length i = true
  · rw [if_pos hi] at HM
    have HG : Hid (J.get i = (J.C.getD i.toNat 0, 0)) := Lib.hid (by unfold JS.get; rw [if_pos hi])
    obtain ⟨cb, cc, ps, lv, bs, h⟩ := h
    obtain ⟨x0, x1⟩ := inB_of hi
    obtain ⟨k, rfl⟩ : ∃ k : Nat, i = k := ⟨i.toNat, by omega⟩
    have h1 := h.below HB.out
    obtain ⟨b0, b1, b2, _⟩ := three h1.hr
    have hk : k < J.C.length := by omega
    obtain ⟨c0, g0⟩ := h1.cells.cell hk
    rw [Int.toNat_natCast] at HG
    generalize J.C.getD k 0 = x at *
    have HM := Lib.hid HM
    clear h h1 hi
    go_enter Try.func27, Try.ntmps27
    go_wp2_with fail
    refine HM.out.mono ?_
    rintro e w' ⟨rfl, rfl⟩
    go_wp2_with fail
    go_ret2
    rw [HG.out]
    exact ⟨rfl, HB.out⟩
  · rw [if_neg hi] at HM
    have HG : Hid (J.get i = (0, 3)) := Lib.hid (by unfold JS.get; rw [if_neg hi])
    have HM := Lib.hid HM
    clear h hi
    go_enter Try.func27, Try.ntmps27
    go_wp2_with fail
    refine HM.out.mono ?_
    rintro e w' ⟨rfl, rfl⟩
    go_wp2_with fail
    go_ret2
    rw [HG.out]
    exact ⟨rfl, HB.out⟩

/-- Set. -/
def JS.set (J : JS) (i n : Int) : JS × Int := if inB J.C.length i then (J.put i.toNat n, 0) else (J, 3)
set_option maxRecDepth 100000 in
set_option maxHeartbeats 800000 in
theorem set_any (h : Jn W M F r J) (i : Int) {n : Int} (hn : W64 n) :
    Calls Try.prog 28 #[.pointer (some ⟨r, 0, none⟩), .int .i64 i, .int .u64 n] W fun e w' => e = .returned (.int .i64 (J.set i n).2) ∧ Jst W M F r w' (J.set i n).1 := by
  have HM := may_one h i
  have HB := Lib.hid ((Below.refl W.heap.size W).alloc (Nat.le_refl _) (.cells #[.int .i64 i] 3))
  have HH := Lib.hid h
  by_cases hi : inB J.C.length i = true
  · rw [if_pos hi] at HM
    have HG : Hid (J.set i n = (J.put i.toNat n, 0)) := Lib.hid (by unfold JS.set; rw [if_pos hi])
    obtain ⟨x0, x1⟩ := inB_of hi
    obtain ⟨k, rfl⟩ : ∃ k : Nat, i = k := ⟨i.toNat, by omega⟩
    have hk : k < J.C.length := by omega
    rw [Int.toNat_natCast] at HG
    have HP := Lib.hid (put_any (HH.out.below HB.out) hk hn)
    have HM := Lib.hid HM
    clear h hi hn
    go_enter Try.func28, Try.ntmps28
    go_wp2_with fail
    refine HM.out.mono ?_
    rintro e w' ⟨rfl, rfl⟩
    go_wp2_with fail
    refine HP.out.mono ?_
    rintro e w' ⟨rfl, hj⟩
    have HJ := Lib.hid hj
    clear hj
    go_wp2_with fail
    go_ret
    rw [HG.out]
    exact ⟨rfl, Jst.trans (Stp.of_below M F HB.out) HJ.out⟩
  · rw [if_neg hi] at HM
    have HG : Hid (J.set i n = (J, 3)) := Lib.hid (by unfold JS.set; rw [if_neg hi])
    have HM := Lib.hid HM
    clear h hi hn
    go_enter Try.func28, Try.ntmps28
    go_wp2_with fail
    refine HM.out.mono ?_
    rintro e w' ⟨rfl, rfl⟩
    go_wp2_with fail
    go_ret
    rw [HG.out]
    exact ⟨rfl, Jst.same HH.out HB.out⟩

/-- A cell is let have what a func tells. -/
def JS.chg (J : JS) (i n : Int) (f : Int → Int → Int × Int) : JS × Int :=
  if inB J.C.length i then (if (f (J.C.getD i.toNat 0) n).2 = 0 then (J.put i.toNat (f (J.C.getD i.toNat 0) n).1, 0) else (J, (f (J.C.getD i.toNat 0) n).2)) else (J, 3)
set_option maxRecDepth 100000 in
set_option maxHeartbeats 1600000 in
theorem change_any (h : Jn W M F r J) (i : Int) {n : Int} (hn : W64 n) (fn : Nat) (hfn : fn = 40 ∨ fn = 56) (f : Int → Int → Int × Int)
    (hf : ∀ a w, W64 a → Calls Try.prog fn #[.int .u64 a, .int .u64 n] w fun e w' => e = .returned (.tuple #[.int .u64 (f a n).1, .int .i64 (f a n).2]) ∧ w = w') (hw : ∀ a, W64 a → W64 (f a n).1) :
    Calls Try.prog 39 #[.pointer (some ⟨r, 0, none⟩), .int .i64 i, .int .u64 n, .func (.func fn) #[] #[]] W fun e w' => e = .returned (.int .i64 (J.chg i n f).2) ∧ Jst W M F r w' (J.chg i n f).1 := by
  have HM := may_one h i
  have HB := Lib.hid ((Below.refl W.heap.size W).alloc (Nat.le_refl _) (.cells #[.int .i64 i] 3))
  have HH := Lib.hid h
  by_cases hi : inB J.C.length i = true
  · rw [if_pos hi] at HM
    have HG : Hid (J.chg i n f = (if (f (J.C.getD i.toNat 0) n).2 = 0 then (J.put i.toNat (f (J.C.getD i.toNat 0) n).1, 0) else (J, (f (J.C.getD i.toNat 0) n).2))) := Lib.hid (by unfold JS.chg; rw [if_pos hi])
    obtain ⟨x0, x1⟩ := inB_of hi
    obtain ⟨k, rfl⟩ : ∃ k : Nat, i = k := ⟨i.toNat, by omega⟩
    have hk : k < J.C.length := by omega
    rw [Int.toNat_natCast] at HG
    obtain ⟨cb, cc, ps, lv, bs, h⟩ := h
    have hx := h.ok.ws.at hk
    have h1 := h.below HB.out
    obtain ⟨b0, b1, b2, _⟩ := three h1.hr
    obtain ⟨c0, g0⟩ := h1.cells.cell hk
    have HF := hf (J.C.getD k 0) (W.alloc (.cells #[.int .i64 (k : Int)] 3)) hx
    have HP := Lib.hid (put_any (HH.out.below HB.out) hk (hw _ hx))
    generalize J.C.getD k 0 = x at *
    generalize f x n = R at *
    obtain ⟨v, er⟩ := R
    dsimp only at *
    have HF := Lib.hid HF
    have HM := Lib.hid HM
    clear h h1 hi hn hf hw
    by_cases her : er = 0
    · subst her
      rw [if_pos rfl] at HG
      rcases hfn with rfl | rfl
      all_goals
        go_enter Try.func39, Try.ntmps39
        go_wp2_with fail
        refine HM.out.mono ?_
        rintro e w' ⟨rfl, rfl⟩
        go_wp2_with fail
        refine HF.out.mono ?_
        rintro e w' ⟨rfl, rfl⟩
        go_wp2_with fail
        refine HP.out.mono ?_
        rintro e w' ⟨rfl, hj⟩
        have HJ := Lib.hid hj
        clear hj
        go_wp2_with fail
        go_ret
        rw [HG.out]
        exact ⟨rfl, Jst.trans (Stp.of_below M F HB.out) HJ.out⟩
    · rw [if_neg her] at HG
      have hq : (er == 0) = false := by rw [beq_eq_false_iff_ne]; exact her
      clear her
      rcases hfn with rfl | rfl
      all_goals
        go_enter Try.func39, Try.ntmps39
        go_wp2_with fail
        refine HM.out.mono ?_
        rintro e w' ⟨rfl, rfl⟩
        go_wp2_with fail
        refine HF.out.mono ?_
        rintro e w' ⟨rfl, rfl⟩
        go_wp2_with fail
        go_ret
        rw [HG.out]
        exact ⟨rfl, Jst.same HH.out HB.out⟩
  · rw [if_neg hi] at HM
    have HG : Hid (J.chg i n f = (J, 3)) := Lib.hid (by unfold JS.chg; rw [if_neg hi])
    have HM := Lib.hid HM
    clear h hi hn hf hw
    go_enter Try.func39, Try.ntmps39
    go_wp2_with fail
    refine HM.out.mono ?_
    rintro e w' ⟨rfl, rfl⟩
    go_wp2_with fail
    go_ret
    rw [HG.out]
    exact ⟨rfl, Jst.same HH.out HB.out⟩

set_option maxHeartbeats 400000 in
theorem jadd_any (h : Jn W M F r J) (i : Int) {n : Int} (hn : W64 n) :
    Calls Try.prog 15 #[.pointer (some ⟨r, 0, none⟩), .int .i64 i, .int .u64 n] W fun e w' => e = .returned (.int .i64 (J.chg i n addR).2) ∧ Jst W M F r w' (J.chg i n addR).1 := by
  have HC := Lib.hid (change_any h i hn 40 (.inl rfl) addR (fun a w ha => add_any a n ha hn w) (fun a ha => addR_w ha hn))
  clear h hn
  go_enter Try.func15, Try.ntmps15
  go_wp2_with fail
  refine HC.out.mono ?_
  rintro e w' ⟨rfl, hj⟩
  go_wp2_with fail
  go_ret
  exact ⟨rfl, hj⟩
set_option maxHeartbeats 400000 in
theorem jsub_any (h : Jn W M F r J) (i : Int) {n : Int} (hn : W64 n) :
    Calls Try.prog 29 #[.pointer (some ⟨r, 0, none⟩), .int .i64 i, .int .u64 n] W fun e w' => e = .returned (.int .i64 (J.chg i n subR).2) ∧ Jst W M F r w' (J.chg i n subR).1 := by
  have HC := Lib.hid (change_any h i hn 56 (.inr rfl) subR (fun a w ha => sub_any a n ha hn w) (fun a ha => subR_w ha hn))
  clear h hn
  go_enter Try.func29, Try.ntmps29
  go_wp2_with fail
  refine HC.out.mono ?_
  rintro e w' ⟨rfl, hj⟩
  go_wp2_with fail
  go_ret
  exact ⟨rfl, hj⟩
end
end Go.Proofs.Ytkpfnonacebmkaa
