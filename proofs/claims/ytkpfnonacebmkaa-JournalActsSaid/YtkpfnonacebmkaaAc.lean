/- JournalActs. -/
import Derived.Test.YtkpfnonacebmkaaTr
import Derived.Test.YtkpfnonacebmkaaDp
import Derived.Deep.RegionHeld3
namespace Go.Proofs.Ytkpfnonacebmkaa
open Go.RowKit

theorem ActsAt.at_ {W w : World} {la : Option Addr} {l : List Ac} (h : ActsAt W la l) (hb : Below W.heap.size W w) {k : Nat} {x : Ac} (hk : l[k]? = some x) : ∃ lb lo, la = some ⟨lb, lo, none⟩ ∧ lb < w.heap.size ∧ W64 x.amt ∧ w.cell? ⟨lb, lo + k * 4, none⟩ = some (.int .i64 x.what) ∧
    w.cell? ⟨lb, lo + k * 4 + 1, none⟩ = some (.int .i64 x.from_) ∧ w.cell? ⟨lb, lo + k * 4 + 2, none⟩ = some (.int .i64 x.to_) ∧ w.cell? ⟨lb, lo + k * 4 + 3, none⟩ = some (.int .u64 x.amt) := h.below hb k x hk
def AcsP (W : World) (e : Ending) (w' : World) : Prop := e = .returned (.bool true) ∧ Below W.heap.size W w'
/-- No journal: the number of cells is out of range. -/
theorem acts_far (W : World) (n : Int) (ls : Value) (h : n < 1 ∨ 4096 < n) : Calls Try.prog 8 #[.int .i64 n, ls] W (AcsP W) := by
  have HA := Lib.hid (new_far n W h)
  have HB := Lib.hid (kNew_far n W h)
  clear h
  go_enter Try.func8, Try.ntmps8
  go_wp2_with fail
  refine HA.out.mono ?_
  rintro e w' ⟨rfl, rfl⟩
  go_wp2_with fail
  refine HB.out.mono ?_
  rintro e w' ⟨rfl, rfl⟩
  go_wp2_with fail
  refine (awake_any W).mono ?_
  rintro e w1 ⟨rfl, hb⟩
  have HB1 := Lib.hid hb
  clear hb
  go_wp2_with fail
  go_ret
  exact ⟨rfl, HB1.out⟩
/-- Too many cells, or acts. -/
theorem acts_many (W : World) (n : Nat) (la : Option Addr) (m c : Nat) (h1 : 1 ≤ n) (h2 : n ≤ 4096) (h : 30 < n ∨ 80 < m) : Calls Try.prog 8 #[.int .i64 n, .slice la m c] W (AcsP W) := by
  have HA := Lib.hid (new_near n W h1 h2)
  have HB := Lib.hid (fun w => kNew_near n w h1 h2)
  by_cases h30 : 30 < n
  · have q0 : decide (30 < (n : Int)) = true := decide_eq_true (by omega)
    clear h h1 h2 h30
    go_enter Try.func8, Try.ntmps8
    go_wp2_with fail
    refine HA.out.mono ?_
    rintro e w1 ⟨rj, M, F, rfl, _, _, hb⟩
    have B1 := Lib.hid hb
    clear hb
    go_wp2_with fail
    refine (HB.out w1).mono ?_
    rintro e w2 ⟨rk, F2, rfl, _, _, hb⟩
    have B2 := Lib.hid (B1.out.trans (hb.mono B1.out.size))
    clear hb
    go_wp2_with fail
    refine (awake_any w2).mono ?_
    rintro e w3 ⟨rfl, hb⟩
    have B3 := Lib.hid (B2.out.trans (hb.mono B2.out.size))
    clear hb
    go_wp2_with fail
    go_ret
    exact ⟨rfl, B3.out⟩
  · have hm : 80 < m := by omega
    have q0 : decide (30 < (n : Int)) = false := decide_eq_false (by omega)
    have q1 : decide (80 < (m : Int)) = true := decide_eq_true (by omega)
    clear h h1 h2 h30
    go_enter Try.func8, Try.ntmps8
    go_wp2_with fail
    refine HA.out.mono ?_
    rintro e w1 ⟨rj, M, F, rfl, _, _, hb⟩
    have B1 := Lib.hid hb
    clear hb
    go_wp2_with fail
    refine (HB.out w1).mono ?_
    rintro e w2 ⟨rk, F2, rfl, _, _, hb⟩
    have B2 := Lib.hid (B1.out.trans (hb.mono B1.out.size))
    clear hb
    go_wp2_with fail
    refine (awake_any w2).mono ?_
    rintro e w3 ⟨rfl, hb⟩
    have B3 := Lib.hid (B2.out.trans (hb.mono B2.out.size))
    clear hb
    go_wp2_with fail
    go_ret
    exact ⟨rfl, B3.out⟩

set_option maxRecDepth 100000 in
set_option maxHeartbeats 6400000 in
theorem acts_near (W : World) (n : Nat) (la : Option Addr) (l : List Ac) (m c : Nat) (hlm : l.length = m) (h1 : 1 ≤ n) (h2 : n ≤ 30) (hm : m ≤ 80) (hA : ActsAt W la l) : Calls Try.prog 8 #[.int .i64 n, .slice la m c] W (AcsP W) := by
  have HNj := Lib.hid (new_near n W h1 (by omega))
  have HNk := Lib.hid (fun w => kNew_near n w h1 (by omega))
  have q0 : decide (30 < (n : Int)) = false := decide_eq_false (by omega)
  have q1 : decide (80 < (m : Int)) = false := decide_eq_false (by omega)
  have HA := Lib.hid hA
  have HL := Lib.hid hlm
  clear hA hlm
  go_enter Try.func8, Try.ntmps8
  go_wp2_with fail
  refine HNj.out.mono ?_
  rintro e w1 ⟨rj, M, F, rfl, hj, hf, hb⟩
  have HJ := Lib.hid hj
  have HF := Lib.hid hf
  have HB := Lib.hid hb
  clear hj hf hb
  go_wp2_with fail
  refine (HNk.out w1).mono ?_
  rintro e w2 ⟨rk, F2, rfl, hk, hf2, hb2⟩
  have H2 := Lib.hid (Pr.new HJ.out HF.out HB.out hk hf2 hb2)
  clear hk hf2 hb2 HJ HF HB HNj HNk
  go_wp2_with fail
  go_loopw [5, 9, 10] (fun jv i _ wr => ∃ (k rj : Nat) (J : JS) (K : KS), k ≤ m ∧ jv = .pointer (some ⟨rj, 0, none⟩) ∧ i = .int .i64 k ∧ Pr W rj rk J K wr ∧ K.tot ≤ 2 * k) (fun _ i _ _ => m - (RowKit.intOf i).toNat)
  case atStart => exact ⟨0, rj, _, _, Nat.zero_le _, rfl, rfl, H2.out, by simp [KS.tot, KS.new]⟩
  case round =>
    clear H2
    obtain ⟨k, rj, J, K, hkm, rfl, rfl, hpr, ht⟩ := hrel
    by_cases hlt : k < m
    · obtain ⟨x, hx⟩ : ∃ x, l[k]? = some x := ⟨l[k]'(by have := HL.out; omega), List.getElem?_eq_getElem (by have := HL.out; omega)⟩
      obtain ⟨lb, lo, rfl, hlb, hw, c0, c1, c2, c3⟩ := HA.out.at_ hpr.base hx
      have HX := Lib.hid (fun (w : World) (hb : Below W.heap.size W w) => (show lb < w.heap.size ∧ w.cell? ⟨lb, lo + k * 4, none⟩ = some (.int .i64 x.what) ∧ w.cell? ⟨lb, lo + k * 4 + 1, none⟩ = some (.int .i64 x.from_) ∧ w.cell? ⟨lb, lo + k * 4 + 2, none⟩ = some (.int .i64 x.to_) ∧ w.cell? ⟨lb, lo + k * 4 + 3, none⟩ = some (.int .u64 x.amt) from by
        obtain ⟨lb', lo', e, g1, _, g2, g3, g4, g5⟩ := HA.out.at_ hb hx
        simp only [Option.some.injEq, Addr.mk.injEq, and_true] at e
        obtain ⟨rfl, rfl⟩ := e
        exact ⟨g1, g2, g3, g4, g5⟩))
      have HD := Lib.hid (hpr.jk.does x.what x.from_ x.to_ x.amt)
      have HT := Lib.hid (show (K.does x.what x.from_ x.to_ x.amt).1.tot ≤ 2 * (k + 1) from by have := K.tot_does x.what x.from_ x.to_ x.amt; omega)
      have HS := Lib.hid (fun (w : World) (rc : Nat) (h : Ps W rc rk J K w) => (HD.out.1 ▸ h.doesj x.what x.from_ x.to_ hw : Calls Try.prog 31 #[.pointer (some ⟨rc, 0, none⟩), .agg #[.int .i64 x.what, .int .i64 x.from_, .int .i64 x.to_, .int .u64 x.amt]] w fun e w' => e = .returned (.int .i64 (K.does x.what x.from_ x.to_ x.amt).2) ∧ Ps W rc rk (J.does x.what x.from_ x.to_ x.amt).1 K w'))
      have HQ := Lib.hid (fun (w : World) (rc : Nat) (h : Ps W rc rk (J.does x.what x.from_ x.to_ x.amt).1 K w) => h.asks x.what x.from_ x.to_ hw (by omega))
      have HP := Lib.hid hpr
      clear hpr hx hw
      obtain ⟨kind, i, q, a⟩ := x
      dsimp only at *
      have HJK := Lib.hid HD.out.2
      generalize (K.does kind i q a).2 = er at *
      generalize (K.does kind i q a).1 = K1 at *
      generalize (J.does kind i q a).1 = J1 at *
      by_cases h8 : kind = 8
      · subst h8
        have HC := Lib.hid HP.out.copy
        go_wp2_with fail
        refine HC.out.mono ?_
        rintro e w3 ⟨rc, rfl, hc⟩
        have HC3 := Lib.hid (hc.set 0 (n := 99) ⟨by omega, by omega⟩)
        clear hc
        go_wp2_with fail
        refine HC3.out.mono ?_
        rintro e w4 ⟨rfl, hc⟩
        have HC4 := Lib.hid (hc.back 0)
        clear hc
        generalize (J.set 0 99).1 = O1 at *
        go_wp2_with fail
        refine HC4.out.mono ?_
        rintro e w5 ⟨rfl, hc⟩
        have HC5 := Lib.hid hc.begin
        clear hc
        generalize (O1.back 0).1 = O2 at *
        go_wp2_with fail
        refine HC5.out.mono ?_
        rintro e w6 ⟨rfl, hc⟩
        have HPs := Lib.hid hc.ps
        clear hc
        obtain ⟨hlb6, c0, c1, c2, c3⟩ := HX.out w6 HPs.out.base
        go_wp2_with fail
        have HS2 := Lib.hid (HS.out w6.drew rc (HPs.out.below ((Below.refl _ _).drew)))
        have HTT := Lib.hid (show K1.tot ≤ 1000000 from by have := HT.out; omega)
        go_region_held3 (fun w' => w'.cell? ⟨lb, lo + k * 4, none⟩ = some (.int .i64 8) ∧ w'.cell? ⟨lb, lo + k * 4 + 1, none⟩ = some (.int .i64 i) ∧ w'.cell? ⟨lb, lo + k * 4 + 2, none⟩ = some (.int .i64 q) ∧ w'.cell? ⟨lb, lo + k * 4 + 3, none⟩ = some (.int .u64 a))
          (first | exact ⟨c0, c1, c2, c3⟩ | exact ⟨y1, y2, y3, y4⟩ | exact ⟨z1, z2, z3, z4⟩ | exact ⟨x1, x2, x3, x4⟩ | go_keep)
          (first
            | (go_at_call 31; refine HS2.out.mono ?_; rintro e v1 ⟨rfl, hs1⟩
               obtain ⟨y0, y1, y2, y3, y4⟩ := HX.out v1 hs1.base
               have HQ1 := Lib.hid (HQ.out v1 rc hs1)
               clear hs1)
            | (go_at_call 36; refine HQ1.out.mono ?_; rintro e v2 ⟨rfl, hs2⟩
               obtain ⟨z0, z1, z2, z3, z4⟩ := HX.out v2 hs2.base
               have HP2 := Lib.hid (hs2.pr HJK.out)
               have HAl := Lib.hid (alike_any HP2.out i HTT.out)
               clear hs2)
            | (go_at_call 17; refine HAl.out.mono ?_; rintro e v3 ⟨rfl, hb3⟩
               have HP3 := Lib.hid (HP2.out.below hb3)
               obtain ⟨x0, x1, x2, x3, x4⟩ := HX.out v3 HP3.out.base
               clear hb3))
        all_goals
          go_wp2_with fail
          go_roundw
          case rel => exact ⟨k + 1, rc, _, _, by omega, rfl, by go_num, HP3.out, HT.out⟩
          case measure => simp [RowKit.intOf]; omega
      · have hq8 : (kind == 8) = false := by rw [beq_eq_false_iff_ne]; exact h8
        go_wp2_with fail
        have HS2 := Lib.hid (HS.out wr.drew rj (HP.out.ps.below ((Below.refl _ _).drew)))
        have HTT := Lib.hid (show K1.tot ≤ 1000000 from by have := HT.out; omega)
        go_region_held3 (fun w' => w'.cell? ⟨lb, lo + k * 4, none⟩ = some (.int .i64 kind) ∧ w'.cell? ⟨lb, lo + k * 4 + 1, none⟩ = some (.int .i64 i) ∧ w'.cell? ⟨lb, lo + k * 4 + 2, none⟩ = some (.int .i64 q) ∧ w'.cell? ⟨lb, lo + k * 4 + 3, none⟩ = some (.int .u64 a))
          (first | exact ⟨c0, c1, c2, c3⟩ | exact ⟨y1, y2, y3, y4⟩ | exact ⟨z1, z2, z3, z4⟩ | exact ⟨x1, x2, x3, x4⟩ | go_keep)
          (first
            | (go_at_call 31; refine HS2.out.mono ?_; rintro e v1 ⟨rfl, hs1⟩
               obtain ⟨y0, y1, y2, y3, y4⟩ := HX.out v1 hs1.base
               have HQ1 := Lib.hid (HQ.out v1 rj hs1)
               clear hs1)
            | (go_at_call 36; refine HQ1.out.mono ?_; rintro e v2 ⟨rfl, hs2⟩
               obtain ⟨z0, z1, z2, z3, z4⟩ := HX.out v2 hs2.base
               have HP2 := Lib.hid (hs2.pr HJK.out)
               have HAl := Lib.hid (alike_any HP2.out i HTT.out)
               clear hs2)
            | (go_at_call 17; refine HAl.out.mono ?_; rintro e v3 ⟨rfl, hb3⟩
               have HP3 := Lib.hid (HP2.out.below hb3)
               obtain ⟨x0, x1, x2, x3, x4⟩ := HX.out v3 HP3.out.base
               clear hb3))
        all_goals
          go_wp2_with fail
          go_roundw
          case rel => exact ⟨k + 1, rj, _, _, by omega, rfl, by go_num, HP3.out, HT.out⟩
          case measure => simp [RowKit.intOf]; omega
    · obtain rfl : k = m := by omega
      have HP := Lib.hid hpr.base
      clear hpr
      go_wp2_with fail
      refine (awake_any wr).mono ?_
      rintro e w3 ⟨rfl, hb⟩
      have B3 := Lib.hid (HP.out.trans (hb.mono HP.out.size))
      clear hb
      go_wp2_with fail
      go_ret
      exact ⟨rfl, B3.out⟩
theorem journalActs_any (W : World) (n : Int) (la : Option Addr) (l : List Ac) (m c : Nat) (hlm : l.length = m) (hA : ActsAt W la l) : Calls Try.prog 8 #[.int .i64 n, .slice la m c] W fun e w' => e = .returned (.bool true) ∧ Below W.heap.size W w' := by
  by_cases h : n < 1 ∨ 4096 < n
  · exact acts_far W n _ h
  · obtain ⟨k, rfl⟩ : ∃ k : Nat, n = k := ⟨n.toNat, by omega⟩
    by_cases h2 : 30 < k ∨ 80 < m
    · exact acts_many W k la m c (by omega) (by omega) h2
    · exact acts_near W k la l m c hlm (by omega) (by omega) (by omega) hA
end Go.Proofs.Ytkpfnonacebmkaa
