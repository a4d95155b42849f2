/- The walk of distraintref09.Pay. -/
import Derived.Test.YtjiffflhedekfaaRf0
import Derived.Deep.Cut
namespace Go.Proofs.Ytjiffflhedekfaa
open Go.RowKit

set_option maxRecDepth 100000 in
set_option maxHeartbeats 3200000 in
/-- distraintref09.Pay. -/
theorem refPay_any (ao : Option Addr) (B : Bk) (c : Nat) (f t n : Int) (w : World) (hB : Rd w ao B.L) (hw : B.Wf) (nB : B.L.length ≤ 9223372036854775807) (hn : W64 n) :
    Calls Try.prog 53 #[.agg #[.slice ao B.L.length c, .int .u64 B.p0, .int .u64 B.p1, .int .u64 B.p2, .int .u64 B.p3], .int .i64 f, .int .i64 t, .int .u64 n] w
      fun e w' => Res w w' e (payR B f t n) := by
  have HB := Lib.hid hB
  clear hB
  go_enter Try.func53, Try.ntmps53
  go_wp2_with fail
  refine wp_region_tail 10 (fun w' => BoxC ((w.alloc (.cells #[.slice ao B.L.length c, .int .u64 B.p0, .int .u64 B.p1, .int .u64 B.p2, .int .u64 B.p3] 26)).alloc (.cells #[.slice none 0 0, .int .u64 0, .int .u64 0, .int .u64 0, .int .u64 0] 26)) w' w.heap.size (.slice ao B.L.length c) (.int .u64 B.p0) (.int .u64 B.p1) (.int .u64 B.p2) (.int .u64 B.p3)) (by kernel_rfl) (by kernel_rfl) (BoxC.init w _ _ _ _ _ _).drew ?_
  simp only [List.take_succ_cons, List.take_zero, List.drop_succ_cons, List.drop_zero]
  refine wpQuiet_step (fun K hK => ?_)
  go_simp
  apply Exists.intro
  refine ⟨fun w' hw' => ?_, hK _ ?_⟩
  · obtain ⟨k0, k1, k2, k3, k4, _⟩ := five hw'.heap
    go_simp
    rfl
  clear hK K
  refine wpQuiet_step (fun K hK => ?_)
  go_simp
  apply Exists.intro
  refine ⟨fun w' hw' => ?_, hK _ ?_⟩
  · exact with_box (refCheck_any ao B c w' (hw'.rd HB.out) hw nB) hw'
  clear hK K
  refine wpQuiet_step (fun K hK => ?_)
  go_simp
  first | refine hK _ ?_ | (apply Exists.intro; refine ⟨fun _ _ => rfl, hK _ ?_⟩)
  clear hK K
  refine wpQuiet_step (fun K hK => ?_)
  go_simp
  apply Exists.intro
  refine ⟨fun w' hw' => ?_, hK _ ?_⟩
  · exact with_same (pool_any f w') hw'
  clear hK K
  refine wpQuiet_step (fun K hK => ?_)
  go_simp
  apply Exists.intro
  refine ⟨fun w' hw' => ?_, hK _ ?_⟩
  · obtain ⟨k0, k1, k2, k3, k4, _⟩ := five hw'.heap
    go_simp
    rfl
  clear hK K
  refine wpQuiet_step (fun K hK => ?_)
  go_simp
  first | refine hK _ ?_ | (apply Exists.intro; refine ⟨fun _ _ => rfl, hK _ ?_⟩)
  clear hK K
  refine wpQuiet_step (fun K hK => ?_)
  go_simp
  apply Exists.intro
  refine ⟨fun w' hw' => ?_, hK _ ?_⟩
  · exact with_box (there_any ao B c t w' nB) hw'
  clear hK K
  refine wpQuiet_step (fun K hK => ?_)
  go_simp
  first | refine hK _ ?_ | (apply Exists.intro; refine ⟨fun _ _ => rfl, hK _ ?_⟩)
  clear hK K
  refine wpQuiet_step (fun K hK => ?_)
  go_simp
  first | refine hK _ ?_ | (apply Exists.intro; refine ⟨fun _ _ => rfl, hK _ ?_⟩)
  clear hK K
  refine wpQuiet_step (fun K hK => ?_)
  go_simp
  apply Exists.intro
  refine ⟨fun w' hw' => ?_, hK _ ?_⟩
  · exact with_same (arg_any (f == 2) w') hw'
  clear hK K
  refine wpQuiet_nil ?_
  intro w1 hx1
  go_wp2_with fail
  refine (with_same (first_any w1.heap.size [B.chk, poolE f, thereE B.L.length t, argE (f == 2)] 4 _ (by exact cells4 (heap_at _ _ rfl)) (by simp)) (hx1.alloc _)).mono ?_
  rintro e w2 ⟨rfl, hx⟩
  have HRE : firstE [B.chk, poolE f, thereE B.L.length t, argE (f == 2)] ≠ 0 → payR B f t n = (B0, firstE [B.chk, poolE f, thereE B.L.length t, argE (f == 2)]) := fun h => payR_err h
  have HRO : firstE [B.chk, poolE f, thereE B.L.length t, argE (f == 2)] = 0 → OkR B ⟨true, f⟩ ⟨false, t⟩ n (payR B f t n) := fun h => payR_ok h
  generalize firstE [B.chk, poolE f, thereE B.L.length t, argE (f == 2)] = er at *
  by_cases he : er = 0
  · obtain ⟨c1, c2, c3, hR⟩ := HRO he
    subst he
    clear HRE HRO
    obtain ⟨h0, h1⟩ := Pl.err_pool (p := ⟨true, f⟩) rfl c2
    obtain ⟨h2, h3⟩ := Pl.err_acc (p := ⟨false, t⟩) rfl c3
    dsimp only at h0 h1 h2 h3
    obtain ⟨k, rfl⟩ := Int.eq_ofNat_of_zero_le h0
    obtain ⟨j, rfl⟩ := Int.eq_ofNat_of_zero_le h2
    have hv := chk_zero c1
    have hgl := Pl.get_le c2 hw
    have hxh := hx.heap
    obtain ⟨hc, _⟩ := five_at hxh (k := k) (by omega)
    have hgx : Pl.get ⟨true, (k : Int)⟩ B = [B.p0, B.p1, B.p2, B.p3].getD k 0 := by simp [Pl.get, Bk.pool]
    rw [← hgx] at hc
    have hkl : k < 4 := by omega
    have hjl : j < B.L.length := by omega
    clear hgx h0 h1 h2 h3
    have HX := Lib.hid hx
    have HXH := Lib.hid hxh
    have HV := Lib.hid hv
    have HGL := Lib.hid hgl
    have HC2 := Lib.hid c2
    have HC3 := Lib.hid c3
    obtain ⟨a0, a1, a2, a3, a4, _⟩ := five hxh
    have hpo := fun w' => poor_any (Pl.get ⟨true, (k : Int)⟩ B) n w'
    have HPO := Lib.hid hpo
    clear hpo hx hxh hv hgl c1 c2 c3
    by_cases hp : Pl.get ⟨true, (k : Int)⟩ B < n
    · have e1 : poorE (Pl.get ⟨true, (k : Int)⟩ B) n = 13 := if_pos hp
      rw [if_pos hp] at hR
      have HR := Lib.hid hR
      obtain ⟨z0, z1, z2, z3, z4, f0, f1, f2, f3, f4⟩ := five HX.out.res
      rw [e1] at HPO
      clear hR hp e1
      generalize Pl.get ⟨true, (k : Int)⟩ B = x at *
      go_wp2_with (go_at_call 74; refine (HPO.out _).mono ?_; rintro e w3 ⟨rfl, rfl⟩)
      refine bodyPost_ret (v := .tuple #[.agg #[.slice none 0 0, .int .u64 0, .int .u64 0, .int .u64 0, .int .u64 0], .int .i64 13]) (by simp [results, Try.results53, go_sem, z0, z1, z2, z3, z4]) rfl ?_
      rw [HR.out]
      exact ⟨none, 0, rfl, own_none _ _, below_set5 HX.out.low (by omega) _ _ _ _ _⟩
    · have e1 : poorE (Pl.get ⟨true, (k : Int)⟩ B) n = 0 := if_neg hp
      rw [if_neg hp] at hR
      have HR := Lib.hid hR
      rw [e1] at HPO
      obtain ⟨hn0, hn1⟩ := hn
      have hw6 : (Pl.set ⟨true, (k : Int)⟩ B (Pl.get ⟨true, (k : Int)⟩ B - n)).Wf := Pl.wf_set hw ⟨by omega, by have := HV.out.2.2; have := HGL.out.2; omega⟩
      have ht6 : Pl.err ⟨false, (j : Int)⟩ (Pl.set ⟨true, (k : Int)⟩ B (Pl.get ⟨true, (k : Int)⟩ B - n)) = 0 := by rw [Pl.err_set]; exact HC3.out
      have hgl6 := Pl.get_le ht6 hw6
      rw [Pl.tot_set HC2.out] at hgl6
      have hy0 := hgl6.1
      have hy1 : Pl.get ⟨false, (j : Int)⟩ (Pl.set ⟨true, (k : Int)⟩ B (Pl.get ⟨true, (k : Int)⟩ B - n)) + n ≤ 18446744073709551615 := by have := HV.out.2.2; omega
      have hx0 := HGL.out.1
      have hnx : n ≤ Pl.get ⟨true, (k : Int)⟩ B := by omega
      have hx1 : Pl.get ⟨true, (k : Int)⟩ B ≤ 4611686018427387904 := by have := HV.out.2.2; have := HGL.out.2; omega
      have HT6 := Lib.hid ht6
      have hjl2 : j < (Pl.set ⟨true, (k : Int)⟩ B (Pl.get ⟨true, (k : Int)⟩ B - n)).L.length := by rw [Pl.set_len]; exact hjl
      have hln2 : (Pl.set ⟨true, (k : Int)⟩ B (Pl.get ⟨true, (k : Int)⟩ B - n)).L.length ≤ 9223372036854775807 := by rw [Pl.set_len]; exact nB
      have HG := Lib.hid (show Pl.get ⟨true, (k : Int)⟩ B = Pl.get ⟨true, (k : Int)⟩ B from rfl)
      have HMC := Lib.hid (fun (W : World) (base g cap : Nat) (h : Mem W base w.heap.size g cap B) => h.cell ⟨true, (k : Int)⟩ HC2.out)
      have HMS := Lib.hid (fun (W : World) (g cap : Nat) (h : Sit2 w W g cap B) => h.set ⟨true, (k : Int)⟩ HC2.out (Pl.get ⟨true, (k : Int)⟩ B - n))
      have HTC := Lib.hid (fun (W : World) (base g cap : Nat) (h : Mem W base w.heap.size g cap (Pl.set ⟨true, (k : Int)⟩ B (Pl.get ⟨true, (k : Int)⟩ B - n))) => h.cell ⟨false, (j : Int)⟩ HT6.out)
      have HTS := Lib.hid (fun (W : World) (g cap : Nat) (h : Sit2 w W g cap (Pl.set ⟨true, (k : Int)⟩ B (Pl.get ⟨true, (k : Int)⟩ B - n))) => h.set ⟨false, (j : Int)⟩ HT6.out (Pl.get ⟨false, (j : Int)⟩ (Pl.set ⟨true, (k : Int)⟩ B (Pl.get ⟨true, (k : Int)⟩ B - n)) + n))
      have HLB : Hid ((Pl.set ⟨true, (k : Int)⟩ B (Pl.get ⟨true, (k : Int)⟩ B - n)).L.length = B.L.length) := Lib.hid (Pl.set_len _ _ _)
      clear hR hp e1 hw6 ht6 hgl6
      generalize Pl.get ⟨false, (j : Int)⟩ (Pl.set ⟨true, (k : Int)⟩ B (Pl.get ⟨true, (k : Int)⟩ B - n)) = y at *
      generalize hD : Pl.set ⟨false, (j : Int)⟩ (Pl.set ⟨true, (k : Int)⟩ B (Pl.get ⟨true, (k : Int)⟩ B - n)) (y + n) = D at *
      generalize Pl.set ⟨true, (k : Int)⟩ B (Pl.get ⟨true, (k : Int)⟩ B - n) = C at *
      generalize Pl.get ⟨true, (k : Int)⟩ B = x at *
      clear hD
      simp only [addr_pool] at HMC HMS
      simp only [addr_acc] at HTC HTS
      go_wp2_with (go_at_call 74; refine (HPO.out _).mono ?_; rintro e w3 ⟨rfl, rfl⟩)
      refine (copyBank_any ao B c _ (HX.out.rd HB.out) (by have := HV.out.2.1; omega)).mono ?_
      rintro e w3 ⟨g, cap, rfl, hown, hb⟩
      have hsz := HX.out.size
      have S3 := Lib.hid (show Sit2 w (set5 w3 w.heap.size (.slice (some ⟨g, 0, none⟩) B.L.length cap) (.int .u64 B.p0) (.int .u64 B.p1) (.int .u64 B.p2) (.int .u64 B.p3)) g cap B from by
        have hlg := hown.low _ rfl
        simp only at hlg
        exact ⟨⟨heap_set5 ((hb.block _ (by omega)).trans HXH.out) _ _ _ _ _, (hown.set5 (fun p hp => by cases hp; simp; omega) _ _ _ _ _).mono (by omega), by omega⟩, (heap_set5_other _ (by omega) _ _ _ _ _).trans ((hb.block _ (by omega)).trans HX.out.res), below_set5 (HX.out.low.trans (hb.mono (by omega))) (Nat.le_refl _) _ _ _ _ _, by omega⟩)
      obtain ⟨o0, o1, o2, o3, o4, g0, g1, g2, g3, g4⟩ := five ((hb.block w.heap.size (by omega)).trans HXH.out)
      clear hown hb a0 a1 a2 a3 a4
      go_upto_region 7 with (fail)
      change Code.wp _ _ _ _ (set5 w3 w.heap.size (.slice (some ⟨g, 0, none⟩) B.L.length cap) (.int .u64 B.p0) (.int .u64 B.p1) (.int .u64 B.p2) (.int .u64 B.p3))
      generalize (set5 w3 w.heap.size (.slice (some ⟨g, 0, none⟩) B.L.length cap) (.int .u64 B.p0) (.int .u64 B.p1) (.int .u64 B.p2) (.int .u64 B.p3)) = W3 at S3 ⊢
      obtain ⟨qA, qF⟩ := HMC.out _ _ _ _ S3.out.mem
      obtain ⟨o0, o1, o2, o3, o4, g0, g1, g2, g3, g4⟩ := five S3.out.mem.out
      go_upto_region 8 with (fail)
      have S4 := Lib.hid (HMS.out _ _ _ S3.out)
      generalize W3.setCell ⟨w.heap.size, 1 + k, none⟩ (.int .u64 (x - n)) = W4 at S4 ⊢
      clear qA qF o0 o1 o2 o3 o4 g0 g1 g2 g3 g4
      obtain ⟨qA, qF⟩ := HTC.out _ _ _ _ S4.out.mem
      obtain ⟨o0, o1, o2, o3, o4, g0, g1, g2, g3, g4⟩ := five S4.out.mem.out
      go_still_tail 11, (by kernel_rfl)
      rw [show IntKind.u64.wrap (y + n) = y + n from IntWalk.u64_in _ ⟨by omega, by omega⟩]
      change wpList _ _ _ _ _ W4.drew
      go_upto_region 9 with (fail)
      have S5 := Lib.hid ((HTS.out _ _ _ S4.out).drew)
      generalize (W4.setCell ⟨g, j, none⟩ (.int .u64 (y + n))).drew = W5 at S5 ⊢
      clear qA qF o0 o1 o2 o3 o4 g0 g1 g2 g3 g4
      obtain ⟨u0, u1, u2, u3, u4, _⟩ := five S5.out.mem.out
      obtain ⟨z0, z1, z2, z3, z4, f0, f1, f2, f3, f4⟩ := five S5.out.res
      go_wp2_with fail
      refine bodyPost_ret (v := .tuple #[.agg #[.slice (some ⟨g, 0, none⟩) D.L.length cap, .int .u64 D.p0, .int .u64 D.p1, .int .u64 D.p2, .int .u64 D.p3], .int .i64 0]) (by simp [results, Try.results53, go_sem, z0, z1, z2, z3, z4]) rfl ?_
      rw [HR.out]
      exact ⟨_, cap, rfl, S5.out.mem.own.set5 (fun p hp => by cases hp; have := S5.out.low; simp; omega) _ _ _ _ _, below_set5 S5.out.bel (by omega) _ _ _ _ _⟩
  · have HR := Lib.hid (HRE he)
    have hq : (er != 0) = true := by rw [bne_iff_ne]; exact he
    have hq2 : (er == 0) = false := by simpa using he
    clear HRE HRO he
    obtain ⟨z0, z1, z2, z3, z4, f0, f1, f2, f3, f4⟩ := five hx.res
    have HX := Lib.hid hx
    clear hx
    go_wp2_with fail
    refine bodyPost_ret (v := .tuple #[.agg #[.slice none 0 0, .int .u64 0, .int .u64 0, .int .u64 0, .int .u64 0], .int .i64 er]) (by simp [results, Try.results53, go_sem, z0, z1, z2, z3, z4]) rfl ?_
    rw [HR.out]
    exact ⟨none, 0, rfl, own_none _ _, below_set5 HX.out.low (by omega) _ _ _ _ _⟩
end Go.Proofs.Ytjiffflhedekfaa
