/- JournalMoves. -/
import Derived.Test.YtkpfnonacebmkaaMd
namespace Go.Proofs.Ytkpfnonacebmkaa
open Go.RowKit

theorem sum_set {l : List Int} {i : Nat} (hi : i < l.length) (v : Int) : (l.set i v).sum = l.sum - l.getD i 0 + v := by
  induction l generalizing i with
  | nil => simp at hi
  | cons a l ih =>
    cases i with
    | zero => simp; omega
    | succ i =>
      have := ih (i := i) (by simpa using hi)
      simp only [List.set_cons_succ, List.sum_cons, this, List.getD_cons_succ]
      omega
theorem getD_rep (n j : Nat) : (List.replicate n (0 : Int)).getD j 0 = 0 := by
  rw [List.getD_eq_getElem?_getD, List.getElem?_replicate]; split <;> rfl
theorem put_C (J : JS) (i : Nat) (n : Int) : (J.put i n).C = J.C.set i n := rfl
theorem move_C (J : JS) (i k n : Int) : (J.move i k n).1.C.length = J.C.length ∧ (J.move i k n).1.C.sum = J.C.sum ∧ ((J.move i k n).2 ≠ 0 → (J.move i k n).1 = J) := by
  unfold JS.move
  split
  · rename_i hin
    rw [Bool.and_eq_true] at hin
    obtain ⟨a0, a1⟩ := inB_of hin.1
    obtain ⟨b0, b1⟩ := inB_of hin.2
    split
    · exact ⟨rfl, rfl, fun _ => rfl⟩
    split
    · exact ⟨rfl, rfl, fun _ => rfl⟩
    split
    · exact ⟨rfl, rfl, fun _ => rfl⟩
    · rename_i hne _ _
      have hne' : k.toNat ≠ i.toNat := by omega
      refine ⟨by simp [put_C], ?_, fun h => absurd rfl h⟩
      simp only [put_C]
      rw [sum_set (by simp only [List.length_set]; omega), sum_set (by omega), getD_set_ne hne']
      omega
  · exact ⟨rfl, rfl, fun _ => rfl⟩
theorem Jo.fresh {W w w' : World} {G : Nat → Prop} {r : Nat} {J : JS} (h : Jo W G r J w) (hb : Below w.heap.size w w') : Jo W (fun k => G k ∨ (w.heap.size ≤ k ∧ k < w'.heap.size)) r J w' := by
  obtain ⟨M, F, h⟩ := h
  have hfl : ∀ k, F k → k < w.heap.size := by obtain ⟨_, _, _, _, _, h⟩ := h.jn; exact h.fl
  refine ⟨M, F, h.jn.below hb, h.lo, h.b.trans (hb.mono h.b.size), fun k hk => ?_⟩
  rcases hk with hk | hk
  · exact ⟨Nat.lt_of_lt_of_le (h.g k hk).1 hb.size, (h.g k hk).2⟩
  · exact ⟨hk.2, fun hF => by have := hfl k hF; omega⟩
theorem Jo.less {W w : World} {G G' : Nat → Prop} {r : Nat} {J : JS} (h : Jo W G r J w) (hg : ∀ k, G' k → G k) : Jo W G' r J w := by
  obtain ⟨M, F, h⟩ := h
  exact ⟨M, F, h.jn, h.lo, h.b, fun k hk => h.g k (hg k hk)⟩
/-- A list of the call's own lies on where its block is as it was. -/
theorem OwnW.keptBy {w w' : World} {base : Nat} {ao : Option Addr} {cap : Nat} {l : List Int} (h : OwnW w base ao cap l) (hk : ∀ g, base ≤ g → g < w.heap.size → w'.heap[g]? = w.heap[g]?) : OwnW w' base ao cap l :=
  ⟨h.1, h.2.imp id fun ⟨g, c, cur, h1, h2, h3, r⟩ => ⟨g, c, cur, h1, h2, (hk g h2 (Array.getElem?_eq_some_iff.1 h3).1).trans h3, r⟩⟩
theorem OwnW.belowB {w w' : World} {base : Nat} {ao : Option Addr} {cap : Nat} {l : List Int} (h : OwnW w base ao cap l) (hb : Below w.heap.size w w') : OwnW w' base ao cap l :=
  h.keptBy fun g _ hg => hb.block g hg

set_option maxRecDepth 100000 in
set_option maxHeartbeats 6400000 in
theorem journalMoves_near (W : World) (fo : Option Addr) (first : List Int) (fc fn : Nat) (la : Option Addr) (l : List Ac) (n lc : Nat) (hfn : first.length = fn) (hF : Rd W fo first) (hWs : Ws first) (nF : fn ≤ 9223372036854775807)
    (hln : l.length = n) (hn : n ≤ 40) (hA : ActsAt W la l) (hI : AcsIn l) :
    Calls Try.prog 7 #[.slice fo fn fc, .slice la n lc] W fun e w' => e = .returned (.bool true) ∧ Below W.heap.size W w' := by
  have HA := Lib.hid hA
  have HI := Lib.hid hI
  have HL := Lib.hid hln
  have HFn := Lib.hid hfn
  have HFr := Lib.hid hF
  have HWs := Lib.hid hWs
  clear hA hI hln hF hWs hfn
  go_enter Try.func7, Try.ntmps7
  go_wp2_with fail
  refine (journalKnown_any W).mono ?_
  rintro e w1 ⟨rfl, hb⟩
  have HB1 := Lib.hid hb
  clear hb
  go_wp2_with fail
  refine (made_any w1 none [] 0 0 rfl (by omega) (fun k x hk => by simp at hk) (fun x hx => by simp at hx)).mono ?_
  rintro e w2 ⟨r, rfl, hj⟩
  have hj2 : Jo W (fun k => k < W.heap.size) r (JS.new 6) w2 := by
    obtain ⟨M, F, h⟩ := hj
    exact ⟨M, F, h.jn, fun k hk => Nat.le_trans HB1.out.size (h.lo k hk), HB1.out.trans (h.b.mono HB1.out.size), fun k hk => h.g k (Nat.lt_of_lt_of_le hk HB1.out.size)⟩
  have HJ2 := Lib.hid hj2
  clear hj hj2
  go_wp2_with fail
  go_loopw [7, 8] (fun s i wr => ∃ (k : Nat) (J : JS) (S : Int), k ≤ 6 ∧ k ≤ fn ∧ s = .int .u64 S ∧ i = .int .i64 k ∧ Jo W (fun k => k < W.heap.size) r J wr ∧ J.C.length = 6 ∧ J.C.sum = S ∧ 0 ≤ S ∧ S ≤ k * 4294967296 ∧ ∀ j, k ≤ j → J.C.getD j 0 = 0)
    (fun _ i _ => 6 - (RowKit.intOf i).toNat)
  case atStart => exact ⟨0, JS.new 6, 0, by omega, by omega, rfl, rfl, HJ2.out, rfl, rfl, by omega, by omega, fun j _ => getD_rep 6 j⟩
  case round =>
    clear HJ2
    obtain ⟨k, J, S, hk6, hkf, rfl, rfl, hj, hl6, hsum, hS0, hS1, hz⟩ := hrel
    by_cases hlt : k < 6 ∧ k < fn
    · obtain ⟨hlt6, hltf⟩ := hlt
      obtain ⟨b, o, rfl, hc⟩ := (HFr.out.below hj.base) k (by have := HFn.out; omega)
      obtain ⟨x0, x1⟩ := HWs.out.at (k := k) (by have := HFn.out; omega)
      generalize first.getD k 0 = x at *
      have hy0 : 0 ≤ x % 4294967297 := by omega
      have hy1 : x % 4294967297 ≤ 4294967296 := by omega
      have hset : J.set k (x % 4294967297) = (J.put k (x % 4294967297), 0) := by unfold JS.set; rw [if_pos (inB_mk (by omega) (by omega)), Int.toNat_natCast]
      have HSt := hj.set k (n := x % 4294967297) ⟨by omega, by omega⟩
      rw [hset] at HSt
      have HSt := Lib.hid HSt
      have hzk := hz k (Nat.le_refl _)
      have HR := Lib.hid (show (J.put k (x % 4294967297)).C.length = 6 ∧ (J.put k (x % 4294967297)).C.sum = S + x % 4294967297 ∧ ∀ j, k + 1 ≤ j → (J.put k (x % 4294967297)).C.getD j 0 = 0 from by
        refine ⟨by rw [put_C]; simpa using hl6, ?_, fun j hj => ?_⟩
        · rw [put_C, sum_set (by omega), hsum, hzk]; omega
        · rw [put_C, getD_set_ne (by omega)]; exact hz j (by omega))
      generalize J.put k (x % 4294967297) = J2 at *
      clear hj hset hl6 hsum hz hzk
      go_wp2_with fail
      refine HSt.out.mono ?_
      rintro e w3 ⟨rfl, hj3, _⟩
      have HJ3 := Lib.hid hj3
      clear hj3
      generalize x % 4294967297 = y at *
      go_wp2_with fail
      go_roundw
      case rel => exact ⟨k + 1, J2, S + y, by omega, by omega, rfl, by go_num, HJ3.out, HR.out.1, HR.out.2.1, by omega, by omega, HR.out.2.2⟩
      case measure => simp [RowKit.intOf]; omega
    · have HR := Lib.hid (And.intro hl6 hsum)
      have HJ := Lib.hid hj
      have hS2 : S ≤ 25769803776 := by omega
      clear hj hl6 hsum hz hS1
      have hcase : (k < 6 ∧ (k : Int) < 6 ∧ fn ≤ k ∧ (fn : Int) ≤ k) ∨ (6 ≤ k ∧ (6 : Int) ≤ k) := by omega
      clear hlt hk6 hkf
      rcases hcase with ⟨e1, e2, e3, e4⟩ | ⟨e1, e2⟩
      have e5 : decide (k < fn) = false := decide_eq_false (by omega)
      have e6 : decide ((k : Int) < (fn : Int)) = false := decide_eq_false (by omega)
      all_goals
        go_wp2_with fail
        go_loopw [10] (fun i wr => ∃ (q : Nat) (J : JS), q ≤ n ∧ i = .int .i64 q ∧ Jo W (fun k => k < W.heap.size) r J wr ∧ J.C.length = 6 ∧ J.C.sum = S) (fun i _ => n - (RowKit.intOf i).toNat)
        case atStart => exact ⟨0, J, by omega, rfl, HJ.out, HR.out.1, HR.out.2⟩
        case round =>
          clear HJ HR
          obtain ⟨q, J, hq, rfl, hj, hl6, hsum⟩ := hrel
          by_cases hlt : q < n
          · obtain ⟨wo, hwo⟩ : ∃ wo : World, wo = wr := ⟨_, rfl⟩
            subst hwo
            have HC := Lib.hid hj.cells
            have HJ := Lib.hid hj
            have HLS := Lib.hid (And.intro hl6 hsum)
            obtain ⟨x, hx⟩ : ∃ x, l[q]? = some x := ⟨l[q]'(by have := HL.out; omega), List.getElem?_eq_getElem (by have := HL.out; omega)⟩
            have HX := Lib.hid hx
            have HX0 := Lib.hid (fun (w : World) (hb : Below W.heap.size W w) => HA.out.base hb hx)
            clear hj hl6 hsum hx
            go_wp2_with fail
            refine HC.out.mono ?_
            rintro e w3 ⟨ao, cap, rfl, hown, hb⟩
            have HJ3 := Lib.hid (HJ.out.fresh hb)
            have HO3 := Lib.hid hown
            have HZ3 := Lib.hid hb.size
            obtain ⟨lb, lo, rfl, hlb, hw, c0, c1, c2, c3⟩ := HX0.out w3 (HJ3.out.base)
            obtain ⟨kind, i, t, m⟩ := x
            dsimp only at *
            have HW := Lib.hid hw
            clear hown hb hw
            go_upto_region 19 with (fail)
            go_still_tail 16, (by kernel_rfl)
            change wpList _ _ _ _ _ w3.drew
            go_wp2_with fail
            refine ((HJ3.out.below ((Below.refl _ _).drew)).move i t HW.out).mono ?_
            rintro e w5 ⟨rfl, hj5, hk5⟩
            have HM := Lib.hid (move_C J i t m)
            have HO5 := Lib.hid (HO3.out.keptBy (w' := w5) (fun g h1 h2 => hk5.2 g (.inr ⟨h1, h2⟩)))
            have HJ5 := Lib.hid (hj5.less (G' := fun k => k < W.heap.size) (fun k hk => .inl hk))
            generalize J.move i t m = R at *
            obtain ⟨J', er⟩ := R
            dsimp only at *
            have HC5 := Lib.hid HJ5.out.cells
            clear hj5 hk5 c0 c1 c2 c3 HC
            go_wp2_with fail
            refine HC5.out.mono ?_
            rintro e w6 ⟨ao', cap', rfl, hown, hb⟩
            have HJ6 := Lib.hid (HJ5.out.below hb)
            have HO6 := Lib.hid (HO5.out.belowB hb)
            have HN6 := Lib.hid hown.rd
            have hlen6 : J'.C.length = 6 := by rw [HM.out.1]; exact HLS.out.1
            have HLen := Lib.hid hlen6
            have HSum : Hid (J'.C.sum = S) := Lib.hid (by rw [HM.out.2.1]; exact HLS.out.2)
            have HWs6 := Lib.hid HJ5.out.ok.ws
            rw [hlen6]
            clear hown hb hlen6
            go_wp2_with fail
            go_loop [14, 15] (fun a c => ∃ d : Nat, d ≤ 6 ∧ a = .int .u64 (J'.C.take d).sum ∧ c = .int .i64 d) (fun _ c => 6 - (RowKit.intOf c).toNat)
            case atStart => exact ⟨0, by omega, by rw [List.take_zero]; rfl, rfl⟩
            case round =>
              obtain ⟨d, hd6, rfl, rfl⟩ := hrel
              have hs0 := (HWs6.out.take d).sum_nonneg
              have hsle := sum_take_le HWs6.out d
              rw [HSum.out] at hsle
              by_cases hdl : d < 6
              · obtain ⟨b', o', rfl, hcell⟩ := HN6.out d (by have := HLen.out; omega)
                have hx := HWs6.out.at (k := d) (by have := HLen.out; omega)
                have hss := sum_take_succ J'.C d (by have := HLen.out; omega)
                have hsl2 := sum_take_le HWs6.out (d + 1)
                rw [HSum.out] at hsl2
                generalize J'.C.getD d 0 = y at *
                generalize hs' : (J'.C.take (d + 1)).sum = s' at *
                generalize (J'.C.take d).sum = s0 at *
                have HSS := Lib.hid hss
                have HS' := Lib.hid hs'
                obtain ⟨hy0, hy1⟩ := hx
                clear hss hs'
                go_wp2_with fail
                go_round
                case rel => exact ⟨d + 1, by omega, by have e := HSS.out; rw [HS'.out, e, IntWalk.u64_in _ ⟨by omega, by omega⟩], by go_num⟩
                case measure => simp [RowKit.intOf]; omega
              · obtain rfl : d = 6 := by omega
                have hsum6 : (J'.C.take 6).sum = S := by rw [List.take_of_length_le (by have := HLen.out; omega)]; exact HSum.out
                rw [hsum6]
                clear hs0 hsle hsum6 hdl
                by_cases her : er = 0
                · subst her
                  go_wp2_with fail
                  go_roundw
                  case rel => first | exact ⟨q + 1, by omega, by omega, J', HJ6.out, HLen.out, HSum.out⟩ | exact ⟨q + 1, J', by omega, by go_num, HJ6.out, HLen.out, HSum.out⟩
                  case measure => simp [RowKit.intOf]; omega
                · have hq1 : (er != 0) = true := by rw [bne_iff_ne]; exact her
                  have heq : J' = J := HM.out.2.2 her
                  have HSm := same_any ao ao' J.C J'.C cap cap' w6 HO6.out.rd HN6.out (by rw [HLS.out.1]; omega) (by rw [HLen.out]; omega)
                  rw [show decide (J.C = J'.C) = true by rw [heq]; simp, HLS.out.1, HLen.out] at HSm
                  have HSm := Lib.hid HSm
                  rw [HLS.out.1]
                  clear her heq
                  go_wp2_with fail
                  refine HSm.out.mono ?_
                  rintro e w7 ⟨rfl, nd, rfl⟩
                  have HJ7 := Lib.hid (HJ6.out.below (below_drewN (Below.refl _ w6) nd))
                  go_wp2_with fail
                  go_roundw
                  case rel => first | exact ⟨q + 1, by omega, by omega, J', HJ7.out, HLen.out, HSum.out⟩ | exact ⟨q + 1, J', by omega, by go_num, HJ7.out, HLen.out, HSum.out⟩
                  case measure => simp [RowKit.intOf]; omega
          · have HB := Lib.hid hj.base
            clear hj hl6 hsum
            go_wp2_with fail
            go_ret
            exact ⟨rfl, HB.out⟩
set_option maxRecDepth 100000 in
set_option maxHeartbeats 3200000 in
theorem journalMoves_far (W : World) (fo : Option Addr) (fc fn : Nat) (la : Option Addr) (n lc : Nat) (hn : 40 < n) :
    Calls Try.prog 7 #[.slice fo fn fc, .slice la n lc] W fun e w' => e = .returned (.bool true) ∧ Below W.heap.size W w' := by
  go_enter Try.func7, Try.ntmps7
  go_wp2_with fail
  refine (journalKnown_any W).mono ?_
  rintro e w1 ⟨rfl, hb⟩
  have HB1 := Lib.hid hb
  clear hb
  go_wp2_with fail
  refine (made_any w1 none [] 0 0 rfl (by omega) (fun k x hk => by simp at hk) (fun x hx => by simp at hx)).mono ?_
  rintro e w2 ⟨r, rfl, hj⟩
  have HB2 := Lib.hid (HB1.out.trans (hj.base.mono HB1.out.size))
  clear hj
  go_wp2_with fail
  go_ret
  exact ⟨rfl, HB2.out⟩
theorem journalMoves_any (W : World) (fo : Option Addr) (first : List Int) (fc fn : Nat) (la : Option Addr) (l : List Ac) (n lc : Nat) (hfn : first.length = fn) (hF : Rd W fo first) (hWs : Ws first) (nF : fn ≤ 9223372036854775807)
    (hln : l.length = n) (hA : ActsAt W la l) (hI : AcsIn l) :
    Calls Try.prog 7 #[.slice fo fn fc, .slice la n lc] W fun e w' => e = .returned (.bool true) ∧ Below W.heap.size W w' := by
  rcases Nat.lt_or_ge 40 n with h | h
  · exact journalMoves_far W fo fc fn la n lc h
  · exact journalMoves_near W fo first fc fn la l n lc hfn hF hWs nF hln h hA hI
end Go.Proofs.Ytkpfnonacebmkaa
