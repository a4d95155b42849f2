/- JournalBack. -/
import Derived.Test.YtkpfnonacebmkaaBp
import Derived.Test.YtkpfnonacebmkaaMv
namespace Go.Proofs.Ytkpfnonacebmkaa
open Go.RowKit

theorem Jo.kept {W w w' : World} {G : Nat → Prop} {r : Nat} {J : JS} (h : Jo W G r J w) (hb : Below w.heap.size w w') : Kept G w w' := by
  obtain ⟨M, F, h⟩ := h
  exact Kept.of_below hb fun k hk => (h.g k hk).1

set_option maxRecDepth 100000 in
set_option maxHeartbeats 6400000 in
theorem journalBack_near (W : World) (la : Option Addr) (l : List Ac) (n lc : Nat) (ma : Option Addr) (more : List Ac) (m mc : Nat)
    (hln : l.length = n) (hn : n ≤ 40) (hA : ActsAt W la l) (hI : AcsIn l) (hmm : more.length = m) (hm : m ≤ 60) (hA2 : ActsAt W ma more) (hI2 : AcsIn more) :
    Calls Try.prog 5 #[.slice la n lc, .slice ma m mc] W fun e w' => e = .returned (.bool true) ∧ Below W.heap.size W w' := by
  have HA := Lib.hid hA
  have HI := Lib.hid hI
  have HL := Lib.hid hln
  have HA2 := Lib.hid hA2
  have HI2 := Lib.hid hI2
  have HM := Lib.hid hmm
  clear hA hI hln hA2 hI2 hmm
  have c1 : (n : Int) ≤ 40 := by omega
  have c2 : (m : Int) ≤ 60 := by omega
  go_enter Try.func5, Try.ntmps5
  go_wp2_with fail
  refine (journalKnown_any W).mono ?_
  rintro e w1 ⟨rfl, hb⟩
  have HB1 := Lib.hid hb
  clear hb
  go_wp2_with fail
  refine (made_any w1 la l n lc HL.out (by omega) (HA.out.below HB1.out) HI.out).mono ?_
  rintro e w2 ⟨r, rfl, hj⟩
  have hj2 : Jo W (fun k => k < W.heap.size) r (JS.made l) w2 := by
    obtain ⟨M, F, h⟩ := hj
    exact ⟨M, F, h.jn, fun k hk => Nat.le_trans HB1.out.size (h.lo k hk), HB1.out.trans (h.b.mono HB1.out.size), fun k hk => h.g k (Nat.lt_of_lt_of_le hk HB1.out.size)⟩
  have hdeep : (JS.made l).L.length ≤ n := by have := made_depth l; rw [HL.out] at this; exact this
  generalize JS.made l = J0 at *
  have HJ2 := Lib.hid hj2
  have HC := Lib.hid hj2.cells
  have HDp := Lib.hid hj2.depth
  have hok := hj2.ok
  have HMost := Lib.hid hok.most
  clear hj hj2 hok
  go_wp2_with fail
  refine HC.out.mono ?_
  rintro e w3 ⟨ao, cap, rfl, hown, hb⟩
  have HJ3 := Lib.hid (HJ2.out.fresh hb)
  have HO3 := Lib.hid hown
  have HZ := Lib.hid hb.size
  clear hown hb
  go_wp2_with fail
  refine HJ3.out.depth.mono ?_
  rintro e _ ⟨rfl, rfl⟩
  have HBg := Lib.hid HJ3.out.begin
  obtain ⟨hbk, hbe⟩ := Bk.begin0 J0 (by omega)
  rw [hbe] at HBg
  have HBk := Lib.hid hbk
  clear hbk hbe
  have hd0 : 0 ≤ (J0.L.length : Int) := by omega
  have hd1 : (J0.L.length : Int) ≤ 40 := by omega
  generalize hD : J0.L.length = D at *
  go_wp2_with fail
  refine HBg.out.mono ?_
  rintro e w4 ⟨rfl, hj4, hk4⟩
  have HJ4 := Lib.hid hj4
  have HK4 := Lib.hid hk4
  clear hj4 hk4 HBg HJ3
  go_wp2_with fail
  go_loopw [11] (fun i wr => ∃ (k : Nat) (J : JS), k ≤ m ∧ i = .int .i64 k ∧ Jo W (fun k => k < W.heap.size ∨ w2.heap.size ≤ k ∧ k < w3.heap.size) r J wr ∧ Bk J0.C J0.U.length J0.L J ∧ Kept (fun k => k < W.heap.size ∨ w2.heap.size ≤ k ∧ k < w3.heap.size) w3 wr) (fun i _ => m - (RowKit.intOf i).toNat)
  case atStart => exact ⟨0, J0.begin.1, Nat.zero_le _, rfl, HJ4.out, HBk.out, HK4.out⟩
  case round =>
    clear HJ4 HBk HK4 HJ2 HC HDp
    obtain ⟨k, J, hk, rfl, hj, hbk, ho⟩ := hrel
    by_cases hlt : k < m
    · obtain ⟨x, hx⟩ : ∃ x, more[k]? = some x := ⟨more[k]'(by have := HM.out; omega), List.getElem?_eq_getElem (by have := HM.out; omega)⟩
      obtain ⟨lb, lo, rfl, hlb, hw, c0, c1, c2, c3⟩ := HA2.out.base hj.base hx
      have hin := HI2.out x (List.mem_of_getElem? hx)
      have P1 := Lib.hid (fun w => pick_at x.from_ 6 w hin.from_ (by omega) (by omega))
      have P2 := Lib.hid (fun w => pick_at x.to_ 6 w hin.to_ (by omega) (by omega))
      have HW := Lib.hid hw
      have HJ := Lib.hid hj
      have HB := Lib.hid hbk
      have HO := Lib.hid ho
      clear hin hx hw hj hbk ho
      obtain ⟨kind, i, q, a⟩ := x
      dsimp only at *
      have hne : lb ≠ wr.heap.size := by omega
      go_wp2_with fail
      go_region_law (first | (go_simp; go_at_call_of 12 (Value.int IntKind.i64 i); refine (P1.out _).mono ?_; rintro e w2 ⟨rfl, rfl⟩) | (go_simp; go_at_call_of 12 (Value.int IntKind.i64 q); refine (P2.out _).mono ?_; rintro e w2 ⟨rfl, rfl⟩))
      all_goals
        have hB : Below wr.heap.size wr (wr.alloc (.cells #[.int .i64 kind, .int .i64 (i % 6), .int .i64 (q % 6), .int .u64 a] 50)).drew := ((Below.refl _ _).alloc (Nat.le_refl _) _).drew
        obtain ⟨d0, d1, d2, d3, _⟩ := four (show (wr.alloc (.cells #[.int .i64 kind, .int .i64 (i % 6), .int .i64 (q % 6), .int .u64 a] 50)).drew.heap[wr.heap.size]? = _ from heap_at wr (.cells #[.int .i64 kind, .int .i64 (i % 6), .int .i64 (q % 6), .int .u64 a] 50) rfl)
        have HJ2 := Lib.hid (HJ.out.below hB)
        have HO2 := Lib.hid (HO.out.trans (HJ.out.kept hB))
        clear hB c0 c1 c2 c3 hlb hne HJ HO
        generalize (wr.alloc (.cells #[.int .i64 kind, .int .i64 (i % 6), .int .i64 (q % 6), .int .u64 a] 50)).drew = wb at *
        have HD := Lib.hid HJ2.out.depth
        have hdj : (J.L.length : Int) ≤ 64 := by have := HJ2.out.ok.dp; omega
        have hdj0 : 0 ≤ (J.L.length : Int) := by omega
        by_cases h7 : kind = 7
        · subst h7
          go_wp2_with fail
          go_roundw
          case rel => exact ⟨k + 1, J, by omega, by go_num, HJ2.out, HB.out, HO2.out⟩
          case measure => simp [RowKit.intOf]; omega
        · by_cases hst : (kind = 5 ∨ kind = 6) ∧ J.L.length ≤ D + 1
          · obtain ⟨h56, hle⟩ := hst
            have hle' : (J.L.length : Int) ≤ (D : Int) + 1 := by omega
            rcases h56 with rfl | rfl
            all_goals
              go_wp2_with fail
              refine HD.out.mono ?_
              rintro e _ ⟨rfl, rfl⟩
              go_wp2_with fail
              go_roundw
              case rel => exact ⟨k + 1, J, by omega, by go_num, HJ2.out, HB.out, HO2.out⟩
              case measure => simp [RowKit.intOf]; omega
          · have HDo := Lib.hid (HJ2.out.does kind (i % 6) (q % 6) HW.out)
            have hB2 := HB.out.does kind (i % 6) (q % 6) a h7 (fun h => by have : ¬ J.L.length ≤ D + 1 := fun h' => hst ⟨h, h'⟩; omega)
            have hgt : kind = 5 ∨ kind = 6 → (D : Int) + 1 < J.L.length := fun h => by have : ¬ J.L.length ≤ D + 1 := fun h' => hst ⟨h, h'⟩; omega
            have HB2 := Lib.hid hB2
            clear hB2 hst
            have hq7 : (kind == 7) = false := beq_false_of_ne h7
            by_cases h56 : kind = 5 ∨ kind = 6
            · have hgt := hgt h56
              clear h7 hq7
              rcases h56 with rfl | rfl
              all_goals
                go_wp2_with fail
                refine HD.out.mono ?_
                rintro e _ ⟨rfl, rfl⟩
                go_wp2_with fail
                refine HDo.out.mono ?_
                rintro e w6 ⟨rfl, hj6, hk6⟩
                have HJ6 := Lib.hid hj6
                have HO6 := Lib.hid (HO2.out.trans hk6)
                clear hj6 hk6
                go_wp2_with fail
                go_roundw
                case rel => exact ⟨k + 1, _, by omega, by go_num, HJ6.out, HB2.out, HO6.out⟩
                case measure => simp [RowKit.intOf]; omega
            · have hq5 : (kind == 5) = false := beq_false_of_ne (by omega)
              have hq6 : (kind == 6) = false := beq_false_of_ne (by omega)
              have hn5 : ¬ kind = 5 := by omega
              have hn6 : ¬ kind = 6 := by omega
              clear h56 hgt
              go_wp2_with fail
              refine HDo.out.mono ?_
              rintro e w6 ⟨rfl, hj6, hk6⟩
              have HJ6 := Lib.hid hj6
              have HO6 := Lib.hid (HO2.out.trans hk6)
              clear hj6 hk6
              go_wp2_with fail
              go_roundw
              case rel => exact ⟨k + 1, _, by omega, by go_num, HJ6.out, HB2.out, HO6.out⟩
              case measure => simp [RowKit.intOf]; omega
    · obtain rfl : k = m := by omega
      have hbk' := hbk.back
      rw [hD] at hbk'
      obtain ⟨e1, e2, e3⟩ := hbk'
      have HBa := Lib.hid (hj.back (D : Int))
      rw [e1] at HBa
      generalize (J.back (D : Int)).1 = J' at *
      have HE := Lib.hid (And.intro e2 e3)
      clear hbk e1 e2 e3
      have HO := Lib.hid ho
      clear ho hj
      go_wp2_with fail
      refine HBa.out.mono ?_
      rintro e w5 ⟨rfl, hj5, hk5⟩
      have HJ5 := Lib.hid hj5
      have HO5 := Lib.hid (HO3.out.keptBy (w' := w5) (fun g h1 h2 => (HO.out.trans hk5).2 g (.inr ⟨h1, h2⟩)))
      have hL5 : J'.L.length = D := by rw [HE.out.2, hD]
      have HC5 := Lib.hid hj5.cells
      rw [HE.out.1] at HC5
      have HD5 := Lib.hid hj5.depth
      rw [hL5] at HD5
      clear hj5 hk5 HO hL5
      go_wp2_with fail
      refine HD5.out.mono ?_
      rintro e _ ⟨rfl, rfl⟩
      go_wp2_with fail
      refine HC5.out.mono ?_
      rintro e w6 ⟨ao', cap', rfl, hown, hb⟩
      have HSm := same_any ao' ao J0.C J0.C cap' cap w6 hown.rd (HO5.out.belowB hb).rd (by have := HMost.out; omega) (by have := HMost.out; omega)
      rw [decide_eq_true (rfl : J0.C = J0.C)] at HSm
      have HSm := Lib.hid HSm
      have HX := Lib.hid (HJ5.out.below hb).base
      clear hown hb
      go_wp2_with fail
      refine HSm.out.mono ?_
      rintro e w7 ⟨rfl, nd, rfl⟩
      go_wp2_with fail
      go_ret
      exact ⟨rfl, below_drewN HX.out nd⟩
set_option maxRecDepth 100000 in
set_option maxHeartbeats 3200000 in
theorem journalBack_far (W : World) (la : Option Addr) (n lc : Nat) (ma : Option Addr) (m mc : Nat) (h : 40 < n ∨ 60 < m) :
    Calls Try.prog 5 #[.slice la n lc, .slice ma m mc] W fun e w' => e = .returned (.bool true) ∧ Below W.heap.size W w' := by
  have hc : 40 < n ∨ n ≤ 40 ∧ (n : Int) ≤ 40 ∧ 60 < m := by omega
  clear h
  rcases hc with h | ⟨_, h1, h⟩
  all_goals
    have hI := Int.ofNat_lt.2 h
    go_enter Try.func5, Try.ntmps5
    go_wp2_with fail
    refine (journalKnown_any W).mono ?_
    rintro e w1 ⟨rfl, hb⟩
    have HB1 := Lib.hid hb
    clear hb
    go_wp2_with fail
    go_ret
    exact ⟨rfl, HB1.out⟩
theorem journalBack_any (W : World) (la : Option Addr) (l : List Ac) (n lc : Nat) (ma : Option Addr) (more : List Ac) (m mc : Nat)
    (hln : l.length = n) (hA : ActsAt W la l) (hI : AcsIn l) (hmm : more.length = m) (hA2 : ActsAt W ma more) (hI2 : AcsIn more) :
    Calls Try.prog 5 #[.slice la n lc, .slice ma m mc] W fun e w' => e = .returned (.bool true) ∧ Below W.heap.size W w' := by
  by_cases h : 40 < n ∨ 60 < m
  · exact journalBack_far W la n lc ma m mc h
  · exact journalBack_near W la l n lc ma more m mc hln (by omega) hA hI hmm (by omega) hA2 hI2
end Go.Proofs.Ytkpfnonacebmkaa
