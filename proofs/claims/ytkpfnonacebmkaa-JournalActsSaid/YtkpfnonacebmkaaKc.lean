/- The document's journal: Add, Sub, Move. -/
import Derived.Test.YtkpfnonacebmkaaKb
namespace Go.Proofs.Ytkpfnonacebmkaa
open Go.RowKit

section
variable {W : World} {F : Nat → Prop} {r : Nat} {K : KS}

set_option maxRecDepth 100000 in
set_option maxHeartbeats 800000 in
theorem kAdd_any (h : Kn W F r K) (i : Int) {n : Int} (hn : W64 n) (ht : K.tot ≤ 1000000) :
    Calls Try.prog 16 #[.pointer (some ⟨r, 0, none⟩), .int .i64 i, .int .u64 n] W fun e w' => e = .returned (.int .i64 (K.chg i n addR).2) ∧ Kst W F r w' (K.chg i n addR).1 := by
  have HK := Lib.hid h
  obtain ⟨cb, cc, lv, ws, h⟩ := h
  have HN := kNone_any h.hr i
  by_cases hi : inB K.C.length i = true
  · rw [hi] at HN
    have HN := Lib.hid HN
    obtain ⟨x0, x1⟩ := inB_of hi
    have HG : Hid (K.chg i n addR = (if (addR (K.C.getD i.toNat 0) n).2 = 0 then (K.put i.toNat (addR (K.C.getD i.toNat 0) n).1, 0) else (K, (addR (K.C.getD i.toNat 0) n).2))) := Lib.hid (by unfold KS.chg; rw [if_pos hi])
    obtain ⟨k, rfl⟩ : ∃ k : Nat, i = k := ⟨i.toNat, by omega⟩
    rw [Int.toNat_natCast] at HG
    have hk : k < K.C.length := by omega
    obtain ⟨b0, b1, _⟩ := two h.hr
    obtain ⟨c0, g0⟩ := h.cells.cell hk
    have hw := h.ok.ws.at hk
    have HF := refAdd_any (K.C.getD k 0) n hw hn W
    have HP := kSet_any HK.out k (addR_w hw hn) ht
    have e1 : K.set k (addR (K.C.getD k 0) n).1 = (K.put k (addR (K.C.getD k 0) n).1, 0) := by unfold KS.set; rw [if_pos hi]; rfl
    rw [e1] at HP
    generalize K.C.getD k 0 = x at *
    generalize addR x n = R at *
    obtain ⟨v, er⟩ := R
    dsimp only at *
    have HF := Lib.hid HF
    have HP := Lib.hid HP
    clear h hi hn hw e1
    by_cases her : er = 0
    · subst her
      rw [if_pos rfl] at HG
      go_enter Try.func16, Try.ntmps16
      go_wp2_with fail
      refine HN.out.mono ?_
      rintro e w' ⟨rfl, rfl⟩
      go_wp2_with fail
      refine HF.out.mono ?_
      rintro e w' ⟨rfl, rfl⟩
      go_wp2_with fail
      refine HP.out.mono ?_
      rintro e w' ⟨rfl, hj⟩
      have HJ := Lib.hid hj
      clear hj
      go_wp2_with fail
      go_ret
      rw [HG.out]
      exact ⟨rfl, HJ.out⟩
    · rw [if_neg her] at HG
      have hq : (er != 0) = true := by rw [bne_iff_ne]; exact her
      clear her
      go_enter Try.func16, Try.ntmps16
      go_wp2_with fail
      refine HN.out.mono ?_
      rintro e w' ⟨rfl, rfl⟩
      go_wp2_with fail
      refine HF.out.mono ?_
      rintro e w' ⟨rfl, rfl⟩
      go_wp2_with fail
      go_ret
      rw [HG.out]
      exact ⟨rfl, Kst.same HK.out (Below.refl _ _)⟩
  · have HG : Hid (K.chg i n addR = (K, 3)) := Lib.hid (by unfold KS.chg; rw [if_neg hi])
    rw [Bool.not_eq_true] at hi
    rw [hi] at HN
    have HN := Lib.hid HN
    clear h hi hn
    go_enter Try.func16, Try.ntmps16
    go_wp2_with fail
    refine HN.out.mono ?_
    rintro e w' ⟨rfl, rfl⟩
    go_wp2_with fail
    go_ret
    rw [HG.out]
    exact ⟨rfl, Kst.same HK.out (Below.refl _ _)⟩

set_option maxRecDepth 100000 in
set_option maxHeartbeats 800000 in
theorem kSub_any (h : Kn W F r K) (i : Int) {n : Int} (hn : W64 n) (ht : K.tot ≤ 1000000) :
    Calls Try.prog 61 #[.pointer (some ⟨r, 0, none⟩), .int .i64 i, .int .u64 n] W fun e w' => e = .returned (.int .i64 (K.chg i n subR).2) ∧ Kst W F r w' (K.chg i n subR).1 := by
  have HK := Lib.hid h
  obtain ⟨cb, cc, lv, ws, h⟩ := h
  have HN := kNone_any h.hr i
  by_cases hi : inB K.C.length i = true
  · rw [hi] at HN
    have HN := Lib.hid HN
    obtain ⟨x0, x1⟩ := inB_of hi
    have HG : Hid (K.chg i n subR = (if (subR (K.C.getD i.toNat 0) n).2 = 0 then (K.put i.toNat (subR (K.C.getD i.toNat 0) n).1, 0) else (K, (subR (K.C.getD i.toNat 0) n).2))) := Lib.hid (by unfold KS.chg; rw [if_pos hi])
    obtain ⟨k, rfl⟩ : ∃ k : Nat, i = k := ⟨i.toNat, by omega⟩
    rw [Int.toNat_natCast] at HG
    have hk : k < K.C.length := by omega
    obtain ⟨b0, b1, _⟩ := two h.hr
    obtain ⟨c0, g0⟩ := h.cells.cell hk
    have hw := h.ok.ws.at hk
    have HF := refSub_any (K.C.getD k 0) n hw hn W
    have HP := kSet_any HK.out k (subR_w hw hn) ht
    have e1 : K.set k (subR (K.C.getD k 0) n).1 = (K.put k (subR (K.C.getD k 0) n).1, 0) := by unfold KS.set; rw [if_pos hi]; rfl
    rw [e1] at HP
    generalize K.C.getD k 0 = x at *
    generalize subR x n = R at *
    obtain ⟨v, er⟩ := R
    dsimp only at *
    have HF := Lib.hid HF
    have HP := Lib.hid HP
    clear h hi hn hw e1
    by_cases her : er = 0
    · subst her
      rw [if_pos rfl] at HG
      go_enter Try.func61, Try.ntmps61
      go_wp2_with fail
      refine HN.out.mono ?_
      rintro e w' ⟨rfl, rfl⟩
      go_wp2_with fail
      refine HF.out.mono ?_
      rintro e w' ⟨rfl, rfl⟩
      go_wp2_with fail
      refine HP.out.mono ?_
      rintro e w' ⟨rfl, hj⟩
      have HJ := Lib.hid hj
      clear hj
      go_wp2_with fail
      go_ret
      rw [HG.out]
      exact ⟨rfl, HJ.out⟩
    · rw [if_neg her] at HG
      have hq : (er != 0) = true := by rw [bne_iff_ne]; exact her
      clear her
      go_enter Try.func61, Try.ntmps61
      go_wp2_with fail
      refine HN.out.mono ?_
      rintro e w' ⟨rfl, rfl⟩
      go_wp2_with fail
      refine HF.out.mono ?_
      rintro e w' ⟨rfl, rfl⟩
      go_wp2_with fail
      go_ret
      rw [HG.out]
      exact ⟨rfl, Kst.same HK.out (Below.refl _ _)⟩
  · have HG : Hid (K.chg i n subR = (K, 3)) := Lib.hid (by unfold KS.chg; rw [if_neg hi])
    rw [Bool.not_eq_true] at hi
    rw [hi] at HN
    have HN := Lib.hid HN
    clear h hi hn
    go_enter Try.func61, Try.ntmps61
    go_wp2_with fail
    refine HN.out.mono ?_
    rintro e w' ⟨rfl, rfl⟩
    go_wp2_with fail
    go_ret
    rw [HG.out]
    exact ⟨rfl, Kst.same HK.out (Below.refl _ _)⟩

set_option maxRecDepth 100000 in
set_option maxHeartbeats 1600000 in
theorem kMove_any (h : Kn W F r K) (i k : Int) {n : Int} (hn : W64 n) (ht : K.tot + 1 ≤ 1000000) :
    Calls Try.prog 62 #[.pointer (some ⟨r, 0, none⟩), .int .i64 i, .int .i64 k, .int .u64 n] W fun e w' => e = .returned (.int .i64 (K.move i k n).2) ∧ Kst W F r w' (K.move i k n).1 := by
  have HK := Lib.hid h
  obtain ⟨cb, cc, lv, ws, h⟩ := h
  have HN := kNone_any h.hr i
  have HM := kNone_any h.hr k
  by_cases hi : inB K.C.length i = true
  · by_cases hk : inB K.C.length k = true
    · rw [hi] at HN
      rw [hk] at HM
      have HN := Lib.hid HN
      have HM := Lib.hid HM
      have HG : Hid (K.move i k n = (if i = k then (K, 2) else if K.C.getD i.toNat 0 < n then (K, 13) else if 18446744073709551615 < K.C.getD k.toNat 0 + n then (K, 12) else ((K.put i.toNat (K.C.getD i.toNat 0 - n)).put k.toNat (K.C.getD k.toNat 0 + n), 0))) := Lib.hid (by unfold KS.move; rw [hi, hk]; rfl)
      have hi0 := hi
      have hk0 := hk
      obtain ⟨x0, x1⟩ := inB_of hi
      obtain ⟨y0, y1⟩ := inB_of hk
      obtain ⟨i, rfl⟩ : ∃ j : Nat, i = j := ⟨i.toNat, by omega⟩
      obtain ⟨k, rfl⟩ : ∃ j : Nat, k = j := ⟨k.toNat, by omega⟩
      rw [Int.toNat_natCast, Int.toNat_natCast] at HG
      by_cases hik : (i : Int) = k
      · rw [if_pos hik] at HG
        have hq : ((i : Int) == k) = true := beq_iff_eq.2 hik
        clear h hi hk hn hik
        go_enter Try.func62, Try.ntmps62
        go_wp2_with fail
        refine HN.out.mono ?_
        rintro e w' ⟨rfl, rfl⟩
        go_wp2_with fail
        refine HM.out.mono ?_
        rintro e w' ⟨rfl, rfl⟩
        go_wp2_with fail
        go_ret
        rw [HG.out]
        exact ⟨rfl, Kst.same HK.out (Below.refl _ _)⟩
      · rw [if_neg hik] at HG
        have hq : ((i : Int) == k) = false := by rw [beq_eq_false_iff_ne]; exact hik
        have hi' : i < K.C.length := by omega
        have hk' : k < K.C.length := by omega
        obtain ⟨b0, b1, _⟩ := two h.hr
        obtain ⟨c0, g0⟩ := h.cells.cell hi'
        obtain ⟨d0, e0⟩ := h.cells.cell hk'
        have hwi := h.ok.ws.at hi'
        have hwk := h.ok.ws.at hk'
        have HF := refSub_any (K.C.getD i 0) n hwi hn W
        have HA := refAdd_any (K.C.getD k 0) n hwk hn W
        have e1 : K.set i (subR (K.C.getD i 0) n).1 = (K.put i (subR (K.C.getD i 0) n).1, 0) := by unfold KS.set; rw [if_pos hi]; rfl
        have HP := kSet_any HK.out i (subR_w hwi hn) (by omega)
        rw [e1] at HP
        have HQ := Lib.hid (fun (w1 : World) (hj : Kst W F r w1 (K.put i (subR (K.C.getD i 0) n).1)) =>
          show Calls Try.prog 43 #[.pointer (some ⟨r, 0, none⟩), .int .i64 k, .int .u64 (addR (K.C.getD k 0) n).1] w1 fun e w' => e = .returned (.int .i64 0) ∧ Kst W F r w' ((K.put i (subR (K.C.getD i 0) n).1).put k (addR (K.C.getD k 0) n).1) from by
            obtain ⟨F1, hj, hs⟩ := hj
            have hl : (K.put i (subR (K.C.getD i 0) n).1).C.length = K.C.length := by simp [KS.put]
            have e2 : (K.put i (subR (K.C.getD i 0) n).1).set k (addR (K.C.getD k 0) n).1 = ((K.put i (subR (K.C.getD i 0) n).1).put k (addR (K.C.getD k 0) n).1, 0) := by unfold KS.set; rw [hl, if_pos hk]; rfl
            have hc := kSet_any hj k (addR_w hwk hn) (by have := K.tot_put i (subR (K.C.getD i 0) n).1; omega)
            rw [e2] at hc
            exact hc.mono fun e w' ⟨h1, h2⟩ => ⟨h1, Kst.trans hs h2⟩)
        by_cases h1 : K.C.getD i 0 < n
        · rw [if_pos h1] at HG
          have e3 : subR (K.C.getD i 0) n = (0, 13) := by unfold subR; rw [if_pos h1]
          rw [e3] at HF
          generalize K.C.getD i 0 = x at *
          generalize K.C.getD k 0 = y at *
          have HF := Lib.hid HF
          clear h hi hk hn hik HQ HP HA e1 e3 hwi hwk
          go_enter Try.func62, Try.ntmps62
          go_wp2_with fail
          refine HN.out.mono ?_
          rintro e w' ⟨rfl, rfl⟩
          go_wp2_with fail
          refine HM.out.mono ?_
          rintro e w' ⟨rfl, rfl⟩
          go_wp2_with fail
          refine HF.out.mono ?_
          rintro e w' ⟨rfl, rfl⟩
          go_wp2_with fail
          go_ret
          rw [HG.out]
          exact ⟨rfl, Kst.same HK.out (Below.refl _ _)⟩
        · rw [if_neg h1] at HG
          have e3 : subR (K.C.getD i 0) n = (K.C.getD i 0 - n, 0) := by unfold subR; rw [if_neg h1]
          rw [e3] at HF HP HQ
          by_cases h2 : 18446744073709551615 < K.C.getD k 0 + n
          · rw [if_pos h2] at HG
            have e4 : addR (K.C.getD k 0) n = (0, 12) := by unfold addR; rw [if_pos h2]
            rw [e4] at HA
            generalize K.C.getD i 0 = x at *
            generalize K.C.getD k 0 = y at *
            have HF := Lib.hid HF
            have HA := Lib.hid HA
            clear h hi hk hn hik HQ HP e1 e3 e4 hwi hwk h1 h2
            go_enter Try.func62, Try.ntmps62
            go_wp2_with fail
            refine HN.out.mono ?_
            rintro e w' ⟨rfl, rfl⟩
            go_wp2_with fail
            refine HM.out.mono ?_
            rintro e w' ⟨rfl, rfl⟩
            go_wp2_with fail
            refine HF.out.mono ?_
            rintro e w' ⟨rfl, rfl⟩
            go_wp2_with fail
            refine HA.out.mono ?_
            rintro e w' ⟨rfl, rfl⟩
            go_wp2_with fail
            go_ret
            rw [HG.out]
            exact ⟨rfl, Kst.same HK.out (Below.refl _ _)⟩
          · rw [if_neg h2] at HG
            have e4 : addR (K.C.getD k 0) n = (K.C.getD k 0 + n, 0) := by unfold addR; rw [if_neg h2]
            rw [e4] at HA HQ
            generalize K.C.getD i 0 = x at *
            generalize K.C.getD k 0 = y at *
            have HF := Lib.hid HF
            have HA := Lib.hid HA
            have HP := Lib.hid HP
            clear h hi hk hn hik e1 e3 e4 hwi hwk h1 h2
            go_enter Try.func62, Try.ntmps62
            go_wp2_with fail
            refine HN.out.mono ?_
            rintro e w' ⟨rfl, rfl⟩
            go_wp2_with fail
            refine HM.out.mono ?_
            rintro e w' ⟨rfl, rfl⟩
            go_wp2_with fail
            refine HF.out.mono ?_
            rintro e w' ⟨rfl, rfl⟩
            go_wp2_with fail
            refine HA.out.mono ?_
            rintro e w' ⟨rfl, rfl⟩
            go_wp2_with fail
            refine HP.out.mono ?_
            rintro e w1 ⟨rfl, hj⟩
            have HQ1 := Lib.hid (HQ.out w1 hj)
            clear hj HQ
            go_wp2_with fail
            refine HQ1.out.mono ?_
            rintro e w2 ⟨rfl, hj⟩
            have HJ := Lib.hid hj
            clear hj
            go_wp2_with fail
            go_ret
            rw [HG.out]
            exact ⟨rfl, HJ.out⟩
    · have HG : Hid (K.move i k n = (K, 3)) := Lib.hid (by unfold KS.move; rw [Bool.not_eq_true] at hk; rw [hk, Bool.and_false]; rfl)
      rw [Bool.not_eq_true] at hk
      rw [hi] at HN
      rw [hk] at HM
      have HN := Lib.hid HN
      have HM := Lib.hid HM
      clear h hi hk hn
      go_enter Try.func62, Try.ntmps62
      go_wp2_with fail
      refine HN.out.mono ?_
      rintro e w' ⟨rfl, rfl⟩
      go_wp2_with fail
      refine HM.out.mono ?_
      rintro e w' ⟨rfl, rfl⟩
      go_wp2_with fail
      go_ret
      rw [HG.out]
      exact ⟨rfl, Kst.same HK.out (Below.refl _ _)⟩
  · have HG : Hid (K.move i k n = (K, 3)) := Lib.hid (by unfold KS.move; rw [Bool.not_eq_true] at hi; rw [hi, Bool.false_and]; rfl)
    rw [Bool.not_eq_true] at hi
    rw [hi] at HN
    have HN := Lib.hid HN
    clear h hi hn HM
    go_enter Try.func62, Try.ntmps62
    go_wp2_with fail
    refine HN.out.mono ?_
    rintro e w' ⟨rfl, rfl⟩
    go_wp2_with fail
    go_ret
    rw [HG.out]
    exact ⟨rfl, Kst.same HK.out (Below.refl _ _)⟩
end
end Go.Proofs.Ytkpfnonacebmkaa
