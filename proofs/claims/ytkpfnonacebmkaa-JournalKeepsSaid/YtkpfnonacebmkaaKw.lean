/- JournalKeeps. -/
import Derived.Test.YtkpfnonacebmkaaTx
import Derived.Test.YtkpfnonacebmkaaBw
import Derived.Deep.QuietTactic
import Derived.BigQuiet
namespace Go.Proofs.Ytkpfnonacebmkaa
open Go.RowKit

theorem Try.info43 : (Try.prog.info? 43).map (fun i => (i.zero, i.size, i.bytes)) = some (some (.slice none 0 0), 1, 24) := by kernel_rfl
theorem made_nil (W : World) : Calls Try.prog 30 #[.slice none 0 0] W fun e w' => ∃ r, e = .returned (.pointer (some ⟨r, 0, none⟩)) ∧ Jo W (fun k => k < W.heap.size) r (JS.new 6) w' :=
  made_any W none [] 0 0 rfl (by omega) (fun k x hk => by simp at hk) (fun x hx => by simp at hx)

theorem undo_len (J : JS) : J.undo.1.C.length = J.C.length := by
  unfold JS.undo; split
  · rfl
  · exact unw_length _ _ _
theorem undoN_len (J : JS) : ∀ k, (JS.undoN k J).C.length = J.C.length
  | 0 => rfl
  | k + 1 => by rw [JS.undoN, undo_len, undoN_len J k]
theorem put_len (J : JS) (i : Nat) (n : Int) : (J.put i n).C.length = J.C.length := by simp [JS.put]
theorem does_len (J : JS) (kind i k n : Int) : (J.does kind i k n).1.C.length = J.C.length := by
  unfold JS.does
  split
  · unfold JS.set; split
    · exact put_len _ _ _
    · rfl
  split
  · unfold JS.chg; split
    · split
      · exact put_len _ _ _
      · rfl
    · rfl
  split
  · unfold JS.chg; split
    · split
      · exact put_len _ _ _
      · rfl
    · rfl
  split
  · exact (move_C J i k n).1
  split
  · unfold JS.begin; split <;> rfl
  split
  · unfold JS.keep; split <;> rfl
  split
  · exact undo_len J
  split
  · unfold JS.back; split
    · rfl
    · exact undoN_len _ _
  · rfl
theorem touched_len (J : JS) : J.touched.length ≤ J.C.length := by
  unfold JS.touched
  split
  · simp
  · simp only [riseN, List.length_map]
    exact Nat.le_trans (List.length_filter_le _ _) (by simp)

set_option maxRecDepth 100000 in
set_option maxHeartbeats 12800000 in
theorem journalKeeps_near (W : World) (la : Option Addr) (l : List Ac) (m lc : Nat)
    (hln : l.length = m) (hm : m ≤ 60) (hA : ActsAt W la l) (hI : AcsIn l) :
    Calls Try.prog 6 #[.slice la m lc] W fun e w' => e = .returned (.bool true) ∧ Below W.heap.size W w' := by
  have HA := Lib.hid hA
  have HI := Lib.hid hI
  have HL := Lib.hid hln
  obtain ⟨i0, hi, hz0, hz1, hz2⟩ := info_parts Try.info43
  clear hA hI hln
  have c1 : (m : Int) ≤ 60 := by omega
  go_enter Try.func6, Try.ntmps6
  go_wp2_with fail
  refine (journalKnown_any W).mono ?_
  rintro e w1 ⟨rfl, hb⟩
  have HB1 := Lib.hid hb
  clear hb
  go_wp2_with fail
  refine (made_nil w1).mono ?_
  rintro e w2 ⟨rj, rfl, hj⟩
  have HJ1 := Lib.hid hj
  clear hj
  go_wp2_with fail
  refine (made_nil w2).mono ?_
  rintro e w3 ⟨rk, rfl, hk⟩
  have HT := Lib.hid (Tws.start HJ1.out hk HB1.out)
  clear hk
  go_wp2_with fail
  go_loopw [6, 7] (fun s i wr => ∃ (k : Nat) (J K : JS) (wo : Option Addr) (wc n : Nat) (ws : List (List Int)), k ≤ m ∧ ws.length = n ∧ s = .slice wo n wc ∧ i = .int .i64 k ∧ Tws W (fun _ => False) rj rk J K wo wc ws wr ∧ J.C = K.C ∧ K.L = [] ∧ J.C.length = 6 ∧ Kp J.C J.U J.L ws) (fun _ i _ => m - (RowKit.intOf i).toNat)
  case atStart => exact ⟨0, JS.new 6, JS.new 6, none, 0, 0, [], Nat.zero_le _, rfl, rfl, rfl, HT.out, rfl, rfl, rfl, trivial⟩
  case round =>
    clear HT HJ1
    obtain ⟨k, J, K, wo, wc, n, ws, hk, hn, rfl, rfl, ht, hCK, hKL, hl6, hkp⟩ := hrel
    have hn64 : n ≤ 64 := by have := ht.ok.dp; have := hkp.length; omega
    have hLn : J.L.length = n := by rw [hkp.length, hn]
    have HT := Lib.hid ht
    have HS := Lib.hid (And.intro hCK (And.intro hKL (And.intro hl6 hkp)))
    have HN := Lib.hid hn
    clear ht hCK hKL hl6 hkp hn
    by_cases hlt : k < m
    · obtain ⟨x, hx⟩ : ∃ x, l[k]? = some x := ⟨l[k]'(by have := HL.out; omega), List.getElem?_eq_getElem (by have := HL.out; omega)⟩
      obtain ⟨lb, lo, rfl, hlb, hw, c0, c1, c2, c3⟩ := HA.out.base HT.out.base hx
      have hin := HI.out x (List.mem_of_getElem? hx)
      have P1 := Lib.hid (fun w => pick_at x.from_ 6 w hin.from_ (by omega) (by omega))
      have P2 := Lib.hid (fun w => pick_at x.to_ 6 w hin.to_ (by omega) (by omega))
      have HW := Lib.hid hw
      clear hin hx hw
      obtain ⟨kind, i, q, a⟩ := x
      dsimp only at *
      have hne : lb ≠ wr.heap.size := by omega
      have HLn := Lib.hid hLn
      clear hLn
      go_wp2_with fail
      go_region_law (first | (go_simp; go_at_call_of 12 (Value.int IntKind.i64 i); refine (P1.out _).mono ?_; rintro e w2 ⟨rfl, rfl⟩) | (go_simp; go_at_call_of 12 (Value.int IntKind.i64 q); refine (P2.out _).mono ?_; rintro e w2 ⟨rfl, rfl⟩))
      all_goals
        have hB : Below wr.heap.size wr (wr.alloc (.cells #[.int .i64 kind, .int .i64 (i % 6), .int .i64 (q % 6), .int .u64 a] 50)).drew := ((Below.refl _ _).alloc (Nat.le_refl _) _).drew
        have hx0 : (wr.alloc (.cells #[.int .i64 kind, .int .i64 (i % 6), .int .i64 (q % 6), .int .u64 a] 50)).drew.heap[wr.heap.size]? = some (.cells #[.int .i64 kind, .int .i64 (i % 6), .int .i64 (q % 6), .int .u64 a] 50 (0, 0)) := heap_at wr (.cells #[.int .i64 kind, .int .i64 (i % 6), .int .i64 (q % 6), .int .u64 a] 50) rfl
        have HX2 := Lib.hid hx0
        obtain ⟨d0, d1, d2, d3, _⟩ := four hx0
        have HT2 := Lib.hid (HT.out.guest hB (Nat.le_refl _) (lt_of_block hx0))
        clear hx0
        clear hB c0 c1 c2 c3 hlb hne HT
        generalize (wr.alloc (.cells #[.int .i64 kind, .int .i64 (i % 6), .int .i64 (q % 6), .int .u64 a] 50)).drew = wb at *
        have HD := Lib.hid HT2.out.depth
        rw [HLn.out] at HD
        have hq4 : kind = 4 ∨ (kind == 4) = false := by by_cases h : kind = 4; exact .inl h; exact .inr (beq_false_of_ne h)
        by_cases h67 : kind = 6 ∨ kind = 7
        · rcases h67 with rfl | rfl
          all_goals
            go_wp2_with fail
            go_roundw
            case rel => exact ⟨k + 1, J, K, wo, wc, n, ws, by omega, HN.out, rfl, by go_num, HT2.out.free, HS.out⟩
            case measure => simp [RowKit.intOf]; omega
        · by_cases h4 : kind = 4
          · subst h4
            by_cases h64 : n < 64
            · have h64' : (n : Int) < 64 := by omega
              obtain ⟨X, M1, F1, M2, F2, vs, hG, hT⟩ := HT2.out
              have HTT := Lib.hid hT
              have HG := Lib.hid hG
              have HCl := Lib.hid HT2.out.cells
              rw [HS.out.2.2.1] at HCl
              clear hT hG h67
              go_wp2_with fail
              refine HD.out.mono ?_
              rintro e _ ⟨rfl, rfl⟩
              go_wp2_with fail
              refine HCl.out.mono ?_
              rintro e w6 ⟨ao, cap, rfl, hown, hb⟩
              obtain ⟨b, rfl, hlo, hlb⟩ := hown.at (by rw [HS.out.2.2.1]; omega)
              have HR : Hid (LRow (w6.alloc (.cells #[.slice (some ⟨b, 0, none⟩) 6 cap] 43)) 43 1 (.slice wo n wc) n vs) := Lib.hid (by have := (HTT.out.below (hb.alloc hb.size (.cells #[.slice (some ⟨b, 0, none⟩) 6 cap] 43))).row; rw [HN.out] at this; exact this)
              have HNw := Lib.hid (World.news_of_block (w := w6.alloc (.cells #[.slice (some ⟨b, 0, none⟩) 6 cap] 43)) (B := w6.heap.size) (cs := #[.slice (some ⟨b, 0, none⟩) 6 cap]) (t := 43) (fr := (0, 0)) (heap_at w6 (.cells #[.slice (some ⟨b, 0, none⟩) 6 cap] 43) rfl))
              have HOne : Hid (∀ u ∈ [Value.slice (some ⟨b, 0, none⟩) 6 cap], u.oneCell' = true) := Lib.hid (by simp [Value.oneCell'])
              have HOw := Lib.hid hown
              have HBl := Lib.hid hb
              have HLo := Lib.hid (And.intro hlo hlb)
              clear hown hb hlo hlb
              go_wp2_with (at_builtin; refine wpList_append_lrow rfl (.tmp 63) (.tmp 66) 53 rfl 43 i0 (.slice none 0 0) 1 24 Try.underlying53 hi hz0 hz1 hz2 rfl (by decide) (.slice wo n wc) n vs rfl HR.out ⟨w6.heap.size, 0, none⟩ 1 1 [.slice (some ⟨b, 0, none⟩) 6 cap] rfl rfl HNw.out HOne.out (by omega) (by simp only [maxLen]; omega) (by omega) _ rfl ?_; intro g cap7 w7 hrow7 hgr7 hg7 hgl7; have HP := Lib.hid (Tw.pushed (l := J.C) HN.out HG.out HTT.out HOw.out HLo.out.1 HLo.out.2 HBl.out (by rw [HS.out.2.2.1]; exact hrow7) hgr7 hg7 hgl7); have HX7 := Lib.hid ((HP.out.2.2 _ rfl).trans HX2.out); clear d0 d1 d2 d3 hrow7 hgr7 hg7 hgl7; obtain ⟨f0, f1, f2, f3, _⟩ := four HX7.out)
              have HT7 := Lib.hid HP.out.1
              clear HP HR HNw HOne HOw HBl HLo HD HTT HG HCl HT2
              have hob := open_both HS.out.2.2.2 (i % 6) (q % 6) a
              rw [if_pos (by have := HLn.out; omega)] at hob
              have HE8 := Lib.hid (show ((J.does 4 (i % 6) (q % 6) a).1.C = K.C ∧ K.L = [] ∧ (J.does 4 (i % 6) (q % 6) a).1.C.length = 6 ∧ Kp (J.does 4 (i % 6) (q % 6) a).1.C (J.does 4 (i % 6) (q % 6) a).1.U (J.does 4 (i % 6) (q % 6) a).1.L (J.C :: ws)) from ⟨hob.1.trans HS.out.1, HS.out.2.1, by rw [hob.1]; exact HS.out.2.2.1, hob.2⟩)
              have HDo := Lib.hid (HT7.out.does 4 (i % 6) (q % 6) HW.out)
              have HN8 : Hid ((J.C :: ws).length = n + 1) := Lib.hid (by rw [List.length_cons, HN.out])
              obtain ⟨n8, hn8⟩ : ∃ n8, n8 = n + 1 := ⟨_, rfl⟩
              rw [← hn8] at HN8
              rw [← hn8]
              have hn8' : n8 ≤ 64 := by omega
              clear hob hn8
              generalize (J.does 4 (i % 6) (q % 6) a).1 = J8 at *
              generalize (J.does 4 (i % 6) (q % 6) a).2 = er at *
              obtain ⟨K8, hK8⟩ : ∃ K8, K8 = K := ⟨_, rfl⟩
              subst hK8
              generalize (some ⟨g, 0, none⟩ : Option Addr) = wo8 at *
              obtain ⟨wc8, hwc8⟩ : ∃ wc8, wc8 = cap7 := ⟨_, rfl⟩
              subst hwc8
              generalize J.C :: ws = ws8 at *
              clear HS HT7 HN HLn
              refine HDo.out.mono ?_
              rintro e w8 ⟨rfl, ht8, hk8⟩
              have HT8 := Lib.hid ht8
              obtain ⟨x0, x1, x2, x3, _⟩ := four ((hk8.2 _ rfl).trans HX7.out)
              clear ht8 hk8 HDo f0 f1 f2 f3 HX7 HX2
              have HCj := Lib.hid HT8.out.cells
              rw [HE8.out.2.2.1] at HCj
              have HKl : Hid (K8.C.length = 6) := Lib.hid (by rw [← HE8.out.1]; exact HE8.out.2.2.1)
              go_wp2_with fail
              refine HCj.out.mono ?_
              rintro e w9 ⟨a1, p1, rfl, ho1, hb1⟩
              have HT9 := Lib.hid (HT8.out.below hb1)
              have HO1 := Lib.hid ho1
              have HCk := Lib.hid HT9.out.cells2
              rw [HKl.out] at HCk
              clear ho1 hb1 HCj HT8
              go_wp2_with fail
              refine HCk.out.mono ?_
              rintro e w10 ⟨a2, p2, rfl, ho2, hb2⟩
              have HT10 := Lib.hid (HT9.out.below hb2)
              have HSm := same_any a1 a2 J8.C K8.C p1 p2 w10 (HO1.out.belowB hb2).rd ho2.rd (by rw [HE8.out.2.2.1]; omega) (by rw [HKl.out]; omega)
              rw [decide_eq_true HE8.out.1, HE8.out.2.2.1, HKl.out] at HSm
              have HSm := Lib.hid HSm
              clear ho2 hb2 HT9 HCk HO1
              go_wp2_with fail
              refine HSm.out.mono ?_
              rintro e w11 ⟨rfl, nd, rfl⟩
              have HT11 := Lib.hid (HT10.out.below (below_drewN (Below.refl _ w10) nd))
              clear HT10 HSm
              generalize w10.drewN nd = w11 at *
              have HDp := Lib.hid HT11.out.depth
              rw [HE8.out.2.2.2.length, HN8.out] at HDp
              go_wp2_with fail
              refine HDp.out.mono ?_
              rintro e _ ⟨rfl, rfl⟩
              clear HDp
              by_cases h0 : n8 = 0
              · subst h0
                go_wp2_with fail
                go_roundw
                case rel => exact ⟨k + 1, J8, K8, wo8, wc8, 0, ws8, by omega, HN8.out, rfl, by go_num, HT11.out.free, HE8.out⟩
                case measure => simp [RowKit.intOf]; omega
              · obtain ⟨lt, ws0, rfl⟩ : ∃ lt ws0, ws8 = lt :: ws0 := by
                  cases ws8 with
                  | nil => exact absurd HN8.out.symm (by simpa using h0)
                  | cons lt ws0 => exact ⟨lt, ws0, rfl⟩
                obtain ⟨n0, hn0⟩ : ∃ n0, ws0.length = n0 := ⟨_, rfl⟩
                obtain rfl : n8 = n0 + 1 := by have := HN8.out; rw [List.length_cons] at this; omega
                have HN0 := Lib.hid hn0
                clear h0 hn0
                have hsub : IntKind.i64.wrap (n0 : Int) = n0 := IntWalk.i64_in _ (by omega)
                have hd1 : 0 ≤ (n0 : Int) := by omega
                have hd2 : n0 < n0 + 1 := by omega
                have hd3 : (n0 : Int) < (n0 : Int) + 1 := by omega
                have HTch := Lib.hid HT11.out.cells
                rw [HE8.out.2.2.1] at HTch
                go_wp2_with fail
                refine HTch.out.mono ?_
                rintro e w12 ⟨a3, p3, rfl, ho3, hb3⟩
                have HT12 := Lib.hid (HT11.out.below hb3)
                have HO3 := Lib.hid ho3
                have HTc := Lib.hid HT12.out.touched
                clear ho3 hb3 HT11 HTch
                have htl : J8.touched.length ≤ 6 := by rw [← HE8.out.2.2.1]; exact touched_len J8
                go_wp2_with fail
                refine HTc.out.mono ?_
                rintro e w13 ⟨a4, p4, rfl, ho4, hb4⟩
                have HT13 := Lib.hid (HT12.out.below hb4)
                have HR3 := Lib.hid (HO3.out.belowB hb4).rd
                have HR4 := Lib.hid ho4.rd
                clear ho4 hb4 HT12 HO3 HTc
                go_wp2_with fail
                go_loopw [12] (fun c wq => ∃ d : Nat, d ≤ 6 ∧ c = .int .i64 d ∧ Below w13.heap.size w13 wq) (fun c _ => 6 - (RowKit.intOf c).toNat)
                case atStart => exact ⟨0, by omega, rfl, Below.refl _ _⟩
                case round =>
                  obtain ⟨d, hd6, rfl, hbq⟩ := hrel
                  obtain ⟨wq, hwq⟩ : ∃ wq : World, wq = wr := ⟨_, rfl⟩
                  subst hwq
                  have HTq := Lib.hid (HT13.out.below hbq)
                  have HR3q := Lib.hid (HR3.out.below hbq)
                  have HAm : Hid (∀ w, Below wq.heap.size wq w → Calls Try.prog 33 #[.slice a4 J8.touched.length p4, .int .i64 (d : Int)] w fun e w' => e = .returned (.bool (decide ((d : Int) ∈ J8.touched))) ∧ w' = w) := Lib.hid (fun w hb => among_any a4 J8.touched p4 d w (((HR4.out.below hbq)).below hb) (by omega))
                  have HBq := Lib.hid hbq
                  clear hbq
                  by_cases hlt6 : d < 6
                  · have hlt6i : (d : Int) < 6 := by omega
                    obtain ⟨g, b, o, cp, hwo, hcw, hrd⟩ := HTq.out.top
                    have hlt : lt.length = 6 := by rw [HE8.out.2.2.2.lens lt (List.mem_cons_self ..)]; exact HE8.out.2.2.1
                    rw [HN0.out, hlt] at hcw
                    obtain ⟨b3, o3, hb3, hc3⟩ := HR3q.out d (by rw [HE8.out.2.2.1]; exact hlt6)
                    obtain ⟨b5, o5, hb5, hc5⟩ := hrd d (by rw [hlt]; exact hlt6)
                    simp only [Option.some.injEq, Addr.mk.injEq, and_true] at hb5
                    obtain ⟨rfl, rfl⟩ := hb5
                    subst hwo
                    subst hb3
                    by_cases hin : (d : Int) ∈ J8.touched
                    · rw [decide_eq_true hin] at HAm
                      clear hin hcw hrd hc3 hc5
                      go_wp2_with fail
                      go_quiet ((go_at_call 33; exact Calls.quiet_of_same (HAm.out _ (below_drewN (Below.refl _ _) _))))
                      go_wp2
                      go_roundw
                      case rel => exact ⟨d + 1, by omega, by go_num, HBq.out.trans ((below_drewN (Below.refl _ wq) _).mono HBq.out.size)⟩
                      case measure => simp [RowKit.intOf]; omega
                    · have hsm := HE8.out.2.2.2.same (c := d) (by rw [HE8.out.2.2.1]; exact hlt6) hin
                      rw [hsm] at hc3
                      rw [decide_eq_false hin] at HAm
                      clear hin hsm hrd
                      generalize lt.getD d 0 = y at *
                      go_wp2_with fail
                      go_quiet ((go_at_call 33; exact Calls.quiet_of_same (HAm.out _ (below_drewN (Below.refl _ _) _))))
                      go_wp2
                      go_roundw
                      case rel => exact ⟨d + 1, by omega, by go_num, HBq.out.trans ((below_drewN (Below.refl _ wq) _).mono HBq.out.size)⟩
                      case measure => simp [RowKit.intOf]; omega
                  · obtain rfl : d = 6 := by omega
                    clear hlt6
                    go_wp2_with fail
                    go_roundw
                    case rel => exact ⟨k + 1, J8, K8, wo8, wc8, n0 + 1, lt :: ws0, by omega, HN8.out, rfl, by go_num, HTq.out.free, HE8.out⟩
                    case measure => simp [RowKit.intOf]; omega
            · have h64' : (64 : Int) ≤ n := by omega
              have hob := open_both HS.out.2.2.2 (i % 6) (q % 6) a
              rw [if_neg (by have := HLn.out; omega)] at hob
              have HE8 := Lib.hid (show ((J.does 4 (i % 6) (q % 6) a).1.C = K.C ∧ K.L = [] ∧ (J.does 4 (i % 6) (q % 6) a).1.C.length = 6 ∧ Kp (J.does 4 (i % 6) (q % 6) a).1.C (J.does 4 (i % 6) (q % 6) a).1.U (J.does 4 (i % 6) (q % 6) a).1.L ws) from ⟨hob.1.trans HS.out.1, HS.out.2.1, by rw [hob.1]; exact HS.out.2.2.1, hob.2⟩)
              have HDo := Lib.hid (HT2.out.does 4 (i % 6) (q % 6) HW.out)
              clear hob h67
              generalize (J.does 4 (i % 6) (q % 6) a).1 = J8 at *
              generalize (J.does 4 (i % 6) (q % 6) a).2 = er at *
              go_wp2_with fail
              refine HD.out.mono ?_
              rintro e _ ⟨rfl, rfl⟩
              go_wp2_with fail
              refine HDo.out.mono ?_
              rintro e w8 ⟨rfl, ht8, hk8⟩
              have HT8 := Lib.hid ht8
              obtain ⟨x0, x1, x2, x3, _⟩ := four ((hk8.2 _ rfl).trans HX2.out)
              obtain ⟨K8, hK8⟩ : ∃ K8, K8 = K := ⟨_, rfl⟩
              subst hK8
              obtain ⟨n8, hn8⟩ : ∃ n8, n8 = n := ⟨_, rfl⟩
              subst hn8
              obtain ⟨ws8, hws8⟩ : ∃ ws8, ws8 = ws := ⟨_, rfl⟩
              subst hws8
              obtain ⟨wo8, hwo8⟩ : ∃ wo8, wo8 = wo := ⟨_, rfl⟩
              subst hwo8
              obtain ⟨wc8, hwc8⟩ : ∃ wc8, wc8 = wc := ⟨_, rfl⟩
              subst hwc8
              have HN8 := HN
              have hn8' := hn64
              clear ht8 hk8 HDo d0 d1 d2 d3 HX2 HS HT2 HD HN HLn h64 h64' hn64
              have HCj := Lib.hid HT8.out.cells
              rw [HE8.out.2.2.1] at HCj
              have HKl : Hid (K8.C.length = 6) := Lib.hid (by rw [← HE8.out.1]; exact HE8.out.2.2.1)
              go_wp2_with fail
              refine HCj.out.mono ?_
              rintro e w9 ⟨a1, p1, rfl, ho1, hb1⟩
              have HT9 := Lib.hid (HT8.out.below hb1)
              have HO1 := Lib.hid ho1
              have HCk := Lib.hid HT9.out.cells2
              rw [HKl.out] at HCk
              clear ho1 hb1 HCj HT8
              go_wp2_with fail
              refine HCk.out.mono ?_
              rintro e w10 ⟨a2, p2, rfl, ho2, hb2⟩
              have HT10 := Lib.hid (HT9.out.below hb2)
              have HSm := same_any a1 a2 J8.C K8.C p1 p2 w10 (HO1.out.belowB hb2).rd ho2.rd (by rw [HE8.out.2.2.1]; omega) (by rw [HKl.out]; omega)
              rw [decide_eq_true HE8.out.1, HE8.out.2.2.1, HKl.out] at HSm
              have HSm := Lib.hid HSm
              clear ho2 hb2 HT9 HCk HO1
              go_wp2_with fail
              refine HSm.out.mono ?_
              rintro e w11 ⟨rfl, nd, rfl⟩
              have HT11 := Lib.hid (HT10.out.below (below_drewN (Below.refl _ w10) nd))
              clear HT10 HSm
              generalize w10.drewN nd = w11 at *
              have HDp := Lib.hid HT11.out.depth
              rw [HE8.out.2.2.2.length, HN8.out] at HDp
              go_wp2_with fail
              refine HDp.out.mono ?_
              rintro e _ ⟨rfl, rfl⟩
              clear HDp
              by_cases h0 : n8 = 0
              · subst h0
                go_wp2_with fail
                go_roundw
                case rel => exact ⟨k + 1, J8, K8, wo8, wc8, 0, ws8, by omega, HN8.out, rfl, by go_num, HT11.out.free, HE8.out⟩
                case measure => simp [RowKit.intOf]; omega
              · obtain ⟨lt, ws0, rfl⟩ : ∃ lt ws0, ws8 = lt :: ws0 := by
                  cases ws8 with
                  | nil => exact absurd HN8.out.symm (by simpa using h0)
                  | cons lt ws0 => exact ⟨lt, ws0, rfl⟩
                obtain ⟨n0, hn0⟩ : ∃ n0, ws0.length = n0 := ⟨_, rfl⟩
                obtain rfl : n8 = n0 + 1 := by have := HN8.out; rw [List.length_cons] at this; omega
                have HN0 := Lib.hid hn0
                clear h0 hn0
                have hsub : IntKind.i64.wrap (n0 : Int) = n0 := IntWalk.i64_in _ (by omega)
                have hd1 : 0 ≤ (n0 : Int) := by omega
                have hd2 : n0 < n0 + 1 := by omega
                have hd3 : (n0 : Int) < (n0 : Int) + 1 := by omega
                have HTch := Lib.hid HT11.out.cells
                rw [HE8.out.2.2.1] at HTch
                go_wp2_with fail
                refine HTch.out.mono ?_
                rintro e w12 ⟨a3, p3, rfl, ho3, hb3⟩
                have HT12 := Lib.hid (HT11.out.below hb3)
                have HO3 := Lib.hid ho3
                have HTc := Lib.hid HT12.out.touched
                clear ho3 hb3 HT11 HTch
                have htl : J8.touched.length ≤ 6 := by rw [← HE8.out.2.2.1]; exact touched_len J8
                go_wp2_with fail
                refine HTc.out.mono ?_
                rintro e w13 ⟨a4, p4, rfl, ho4, hb4⟩
                have HT13 := Lib.hid (HT12.out.below hb4)
                have HR3 := Lib.hid (HO3.out.belowB hb4).rd
                have HR4 := Lib.hid ho4.rd
                clear ho4 hb4 HT12 HO3 HTc
                go_wp2_with fail
                go_loopw [12] (fun c wq => ∃ d : Nat, d ≤ 6 ∧ c = .int .i64 d ∧ Below w13.heap.size w13 wq) (fun c _ => 6 - (RowKit.intOf c).toNat)
                case atStart => exact ⟨0, by omega, rfl, Below.refl _ _⟩
                case round =>
                  obtain ⟨d, hd6, rfl, hbq⟩ := hrel
                  obtain ⟨wq, hwq⟩ : ∃ wq : World, wq = wr := ⟨_, rfl⟩
                  subst hwq
                  have HTq := Lib.hid (HT13.out.below hbq)
                  have HR3q := Lib.hid (HR3.out.below hbq)
                  have HAm : Hid (∀ w, Below wq.heap.size wq w → Calls Try.prog 33 #[.slice a4 J8.touched.length p4, .int .i64 (d : Int)] w fun e w' => e = .returned (.bool (decide ((d : Int) ∈ J8.touched))) ∧ w' = w) := Lib.hid (fun w hb => among_any a4 J8.touched p4 d w (((HR4.out.below hbq)).below hb) (by omega))
                  have HBq := Lib.hid hbq
                  clear hbq
                  by_cases hlt6 : d < 6
                  · have hlt6i : (d : Int) < 6 := by omega
                    obtain ⟨g, b, o, cp, hwo, hcw, hrd⟩ := HTq.out.top
                    have hlt : lt.length = 6 := by rw [HE8.out.2.2.2.lens lt (List.mem_cons_self ..)]; exact HE8.out.2.2.1
                    rw [HN0.out, hlt] at hcw
                    obtain ⟨b3, o3, hb3, hc3⟩ := HR3q.out d (by rw [HE8.out.2.2.1]; exact hlt6)
                    obtain ⟨b5, o5, hb5, hc5⟩ := hrd d (by rw [hlt]; exact hlt6)
                    simp only [Option.some.injEq, Addr.mk.injEq, and_true] at hb5
                    obtain ⟨rfl, rfl⟩ := hb5
                    subst hwo
                    subst hb3
                    by_cases hin : (d : Int) ∈ J8.touched
                    · rw [decide_eq_true hin] at HAm
                      clear hin hcw hrd hc3 hc5
                      go_wp2_with fail
                      go_quiet ((go_at_call 33; exact Calls.quiet_of_same (HAm.out _ (below_drewN (Below.refl _ _) _))))
                      go_wp2
                      go_roundw
                      case rel => exact ⟨d + 1, by omega, by go_num, HBq.out.trans ((below_drewN (Below.refl _ wq) _).mono HBq.out.size)⟩
                      case measure => simp [RowKit.intOf]; omega
                    · have hsm := HE8.out.2.2.2.same (c := d) (by rw [HE8.out.2.2.1]; exact hlt6) hin
                      rw [hsm] at hc3
                      rw [decide_eq_false hin] at HAm
                      clear hin hsm hrd
                      generalize lt.getD d 0 = y at *
                      go_wp2_with fail
                      go_quiet ((go_at_call 33; exact Calls.quiet_of_same (HAm.out _ (below_drewN (Below.refl _ _) _))))
                      go_wp2
                      go_roundw
                      case rel => exact ⟨d + 1, by omega, by go_num, HBq.out.trans ((below_drewN (Below.refl _ wq) _).mono HBq.out.size)⟩
                      case measure => simp [RowKit.intOf]; omega
                  · obtain rfl : d = 6 := by omega
                    clear hlt6
                    go_wp2_with fail
                    go_roundw
                    case rel => exact ⟨k + 1, J8, K8, wo8, wc8, n0 + 1, lt :: ws0, by omega, HN8.out, rfl, by go_num, HTq.out.free, HE8.out⟩
                    case measure => simp [RowKit.intOf]; omega
          · by_cases h5 : kind = 5
            · subst h5
              by_cases hp : 0 < n
              · obtain ⟨l0, ws0, rfl⟩ : ∃ l0 ws0, ws = l0 :: ws0 := by
                  cases ws with
                  | nil => have := HN.out; simp at this; omega
                  | cons l0 ws0 => exact ⟨l0, ws0, rfl⟩
                obtain ⟨n8, hn8⟩ : ∃ n8, n8 = ws0.length := ⟨_, rfl⟩
                obtain rfl : n = n8 + 1 := by have := HN.out; rw [List.length_cons] at this; omega
                have hob := keep_both HS.out.2.2.2 (i % 6) (q % 6) a
                have HE8 := Lib.hid (show ((J.does 5 (i % 6) (q % 6) a).1.C = K.C ∧ K.L = [] ∧ (J.does 5 (i % 6) (q % 6) a).1.C.length = 6 ∧ Kp (J.does 5 (i % 6) (q % 6) a).1.C (J.does 5 (i % 6) (q % 6) a).1.U (J.does 5 (i % 6) (q % 6) a).1.L ws0) from ⟨hob.1.trans HS.out.1, HS.out.2.1, by rw [hob.1]; exact HS.out.2.2.1, hob.2⟩)
                obtain ⟨g, b, o, cp, hwo, _, _⟩ := HT2.out.top
                have hwc : n8 + 1 ≤ wc := by
                  obtain ⟨X, M1, F1, M2, F2, vs, _, h⟩ := HT2.out
                  rcases h.row.2 with ⟨e, _⟩ | ⟨g', c, cur, e, _, h1, _⟩
                  · rw [hwo] at e; simp at e
                  · simp only [Value.slice.injEq] at e; rw [e.2.2, hn8]; simpa using h1
                have HTc := Lib.hid HT2.out.cut
                have HDo := Lib.hid (HTc.out.does 5 (i % 6) (q % 6) HW.out)
                have HN8 : Hid (ws0.length = n8) := Lib.hid hn8.symm
                have hn8' : n8 ≤ 64 := by omega
                clear hob h67 h4 hp hn8
                generalize (J.does 5 (i % 6) (q % 6) a).1 = J8 at *
                generalize (J.does 5 (i % 6) (q % 6) a).2 = er at *
                have hsub : IntKind.i64.wrap (n8 : Int) = n8 := IntWalk.i64_in _ (by omega)
                have hs1 : (0 : Int) ≤ n8 := by omega
                have hs2 : n8 ≤ wc := by omega
                have hs3 : (n8 : Int) ≤ wc := by omega
                have hs4 : (0 : Int) < (n8 : Int) + 1 := by omega
                subst hwo
                go_wp2_with fail
                refine HD.out.mono ?_
                rintro e _ ⟨rfl, rfl⟩
                go_wp2_with fail
                refine HDo.out.mono ?_
                rintro e w8 ⟨rfl, ht8, hk8⟩
                have HT8 := Lib.hid ht8
                obtain ⟨x0, x1, x2, x3, _⟩ := four ((hk8.2 _ rfl).trans HX2.out)
                obtain ⟨K8, hK8⟩ : ∃ K8, K8 = K := ⟨_, rfl⟩
                subst hK8
                obtain ⟨ws8, hws8⟩ : ∃ ws8, ws8 = ws0 := ⟨_, rfl⟩
                subst hws8
                generalize (some ⟨g, 0, none⟩ : Option Addr) = wo8 at *
                obtain ⟨wc8, hwc8⟩ : ∃ wc8, wc8 = wc := ⟨_, rfl⟩
                subst hwc8
                clear ht8 hk8 HDo d0 d1 d2 d3 HX2 HS HT2 HTc HD HN HLn hn64 hwc hs1 hs2 hs3 hs4 hsub
                have HCj := Lib.hid HT8.out.cells
                rw [HE8.out.2.2.1] at HCj
                have HKl : Hid (K8.C.length = 6) := Lib.hid (by rw [← HE8.out.1]; exact HE8.out.2.2.1)
                go_wp2_with fail
                refine HCj.out.mono ?_
                rintro e w9 ⟨a1, p1, rfl, ho1, hb1⟩
                have HT9 := Lib.hid (HT8.out.below hb1)
                have HO1 := Lib.hid ho1
                have HCk := Lib.hid HT9.out.cells2
                rw [HKl.out] at HCk
                clear ho1 hb1 HCj HT8
                go_wp2_with fail
                refine HCk.out.mono ?_
                rintro e w10 ⟨a2, p2, rfl, ho2, hb2⟩
                have HT10 := Lib.hid (HT9.out.below hb2)
                have HSm := same_any a1 a2 J8.C K8.C p1 p2 w10 (HO1.out.belowB hb2).rd ho2.rd (by rw [HE8.out.2.2.1]; omega) (by rw [HKl.out]; omega)
                rw [decide_eq_true HE8.out.1, HE8.out.2.2.1, HKl.out] at HSm
                have HSm := Lib.hid HSm
                clear ho2 hb2 HT9 HCk HO1
                go_wp2_with fail
                refine HSm.out.mono ?_
                rintro e w11 ⟨rfl, nd, rfl⟩
                have HT11 := Lib.hid (HT10.out.below (below_drewN (Below.refl _ w10) nd))
                clear HT10 HSm
                generalize w10.drewN nd = w11 at *
                have HDp := Lib.hid HT11.out.depth
                rw [HE8.out.2.2.2.length, HN8.out] at HDp
                go_wp2_with fail
                refine HDp.out.mono ?_
                rintro e _ ⟨rfl, rfl⟩
                clear HDp
                by_cases h0 : n8 = 0
                · subst h0
                  go_wp2_with fail
                  go_roundw
                  case rel => exact ⟨k + 1, J8, K8, wo8, wc8, 0, ws8, by omega, HN8.out, rfl, by go_num, HT11.out.free, HE8.out⟩
                  case measure => simp [RowKit.intOf]; omega
                · obtain ⟨lt, ws0, rfl⟩ : ∃ lt ws0, ws8 = lt :: ws0 := by
                    cases ws8 with
                    | nil => exact absurd HN8.out.symm (by simpa using h0)
                    | cons lt ws0 => exact ⟨lt, ws0, rfl⟩
                  obtain ⟨n0, hn0⟩ : ∃ n0, ws0.length = n0 := ⟨_, rfl⟩
                  obtain rfl : n8 = n0 + 1 := by have := HN8.out; rw [List.length_cons] at this; omega
                  have HN0 := Lib.hid hn0
                  clear h0 hn0
                  have hsub : IntKind.i64.wrap (n0 : Int) = n0 := IntWalk.i64_in _ (by omega)
                  have hd1 : 0 ≤ (n0 : Int) := by omega
                  have hd2 : n0 < n0 + 1 := by omega
                  have hd3 : (n0 : Int) < (n0 : Int) + 1 := by omega
                  have HTch := Lib.hid HT11.out.cells
                  rw [HE8.out.2.2.1] at HTch
                  go_wp2_with fail
                  refine HTch.out.mono ?_
                  rintro e w12 ⟨a3, p3, rfl, ho3, hb3⟩
                  have HT12 := Lib.hid (HT11.out.below hb3)
                  have HO3 := Lib.hid ho3
                  have HTc := Lib.hid HT12.out.touched
                  clear ho3 hb3 HT11 HTch
                  have htl : J8.touched.length ≤ 6 := by rw [← HE8.out.2.2.1]; exact touched_len J8
                  go_wp2_with fail
                  refine HTc.out.mono ?_
                  rintro e w13 ⟨a4, p4, rfl, ho4, hb4⟩
                  have HT13 := Lib.hid (HT12.out.below hb4)
                  have HR3 := Lib.hid (HO3.out.belowB hb4).rd
                  have HR4 := Lib.hid ho4.rd
                  clear ho4 hb4 HT12 HO3 HTc
                  go_wp2_with fail
                  go_loopw [12] (fun c wq => ∃ d : Nat, d ≤ 6 ∧ c = .int .i64 d ∧ Below w13.heap.size w13 wq) (fun c _ => 6 - (RowKit.intOf c).toNat)
                  case atStart => exact ⟨0, by omega, rfl, Below.refl _ _⟩
                  case round =>
                    obtain ⟨d, hd6, rfl, hbq⟩ := hrel
                    obtain ⟨wq, hwq⟩ : ∃ wq : World, wq = wr := ⟨_, rfl⟩
                    subst hwq
                    have HTq := Lib.hid (HT13.out.below hbq)
                    have HR3q := Lib.hid (HR3.out.below hbq)
                    have HAm : Hid (∀ w, Below wq.heap.size wq w → Calls Try.prog 33 #[.slice a4 J8.touched.length p4, .int .i64 (d : Int)] w fun e w' => e = .returned (.bool (decide ((d : Int) ∈ J8.touched))) ∧ w' = w) := Lib.hid (fun w hb => among_any a4 J8.touched p4 d w (((HR4.out.below hbq)).below hb) (by omega))
                    have HBq := Lib.hid hbq
                    clear hbq
                    by_cases hlt6 : d < 6
                    · have hlt6i : (d : Int) < 6 := by omega
                      obtain ⟨g, b, o, cp, hwo, hcw, hrd⟩ := HTq.out.top
                      have hlt : lt.length = 6 := by rw [HE8.out.2.2.2.lens lt (List.mem_cons_self ..)]; exact HE8.out.2.2.1
                      rw [HN0.out, hlt] at hcw
                      obtain ⟨b3, o3, hb3, hc3⟩ := HR3q.out d (by rw [HE8.out.2.2.1]; exact hlt6)
                      obtain ⟨b5, o5, hb5, hc5⟩ := hrd d (by rw [hlt]; exact hlt6)
                      simp only [Option.some.injEq, Addr.mk.injEq, and_true] at hb5
                      obtain ⟨rfl, rfl⟩ := hb5
                      subst hwo
                      subst hb3
                      by_cases hin : (d : Int) ∈ J8.touched
                      · rw [decide_eq_true hin] at HAm
                        clear hin hcw hrd hc3 hc5
                        go_wp2_with fail
                        go_quiet ((go_at_call 33; exact Calls.quiet_of_same (HAm.out _ (below_drewN (Below.refl _ _) _))))
                        go_wp2
                        go_roundw
                        case rel => exact ⟨d + 1, by omega, by go_num, HBq.out.trans ((below_drewN (Below.refl _ wq) _).mono HBq.out.size)⟩
                        case measure => simp [RowKit.intOf]; omega
                      · have hsm := HE8.out.2.2.2.same (c := d) (by rw [HE8.out.2.2.1]; exact hlt6) hin
                        rw [hsm] at hc3
                        rw [decide_eq_false hin] at HAm
                        clear hin hsm hrd
                        generalize lt.getD d 0 = y at *
                        go_wp2_with fail
                        go_quiet ((go_at_call 33; exact Calls.quiet_of_same (HAm.out _ (below_drewN (Below.refl _ _) _))))
                        go_wp2
                        go_roundw
                        case rel => exact ⟨d + 1, by omega, by go_num, HBq.out.trans ((below_drewN (Below.refl _ wq) _).mono HBq.out.size)⟩
                        case measure => simp [RowKit.intOf]; omega
                    · obtain rfl : d = 6 := by omega
                      clear hlt6
                      go_wp2_with fail
                      go_roundw
                      case rel => exact ⟨k + 1, J8, K8, wo8, wc8, n0 + 1, lt :: ws0, by omega, HN8.out, rfl, by go_num, HTq.out.free, HE8.out⟩
                      case measure => simp [RowKit.intOf]; omega
              · have hn0 : n = 0 := by omega
                have hws0 : ws = [] := List.eq_nil_of_length_eq_zero (by rw [HN.out, hn0])
                have hp1 : decide (0 < n) = false := decide_eq_false hp
                have hp2 : decide ((0 : Int) < n) = false := decide_eq_false (by omega)
                have hob := keep_both HS.out.2.2.2 (i % 6) (q % 6) a
                rw [show ws.tail = ws by rw [hws0]; rfl] at hob
                have HE8 := Lib.hid (show ((J.does 5 (i % 6) (q % 6) a).1.C = K.C ∧ K.L = [] ∧ (J.does 5 (i % 6) (q % 6) a).1.C.length = 6 ∧ Kp (J.does 5 (i % 6) (q % 6) a).1.C (J.does 5 (i % 6) (q % 6) a).1.U (J.does 5 (i % 6) (q % 6) a).1.L ws) from ⟨hob.1.trans HS.out.1, HS.out.2.1, by rw [hob.1]; exact HS.out.2.2.1, hob.2⟩)
                have HDo := Lib.hid (HT2.out.does 5 (i % 6) (q % 6) HW.out)
                clear hob h67 h4 hws0 hn0
                generalize (J.does 5 (i % 6) (q % 6) a).1 = J8 at *
                generalize (J.does 5 (i % 6) (q % 6) a).2 = er at *
                go_wp2_with fail
                refine HD.out.mono ?_
                rintro e _ ⟨rfl, rfl⟩
                go_wp2_with fail
                refine HDo.out.mono ?_
                rintro e w8 ⟨rfl, ht8, hk8⟩
                have HT8 := Lib.hid ht8
                obtain ⟨x0, x1, x2, x3, _⟩ := four ((hk8.2 _ rfl).trans HX2.out)
                obtain ⟨K8, hK8⟩ : ∃ K8, K8 = K := ⟨_, rfl⟩
                subst hK8
                obtain ⟨n8, hn8⟩ : ∃ n8, n8 = n := ⟨_, rfl⟩
                subst hn8
                obtain ⟨ws8, hws8⟩ : ∃ ws8, ws8 = ws := ⟨_, rfl⟩
                subst hws8
                obtain ⟨wo8, hwo8⟩ : ∃ wo8, wo8 = wo := ⟨_, rfl⟩
                subst hwo8
                obtain ⟨wc8, hwc8⟩ : ∃ wc8, wc8 = wc := ⟨_, rfl⟩
                subst hwc8
                have HN8 := HN
                have hn8' := hn64
                clear ht8 hk8 HDo d0 d1 d2 d3 HX2 HS HT2 HD HN HLn hp hp1 hp2 hn64
                have HCj := Lib.hid HT8.out.cells
                rw [HE8.out.2.2.1] at HCj
                have HKl : Hid (K8.C.length = 6) := Lib.hid (by rw [← HE8.out.1]; exact HE8.out.2.2.1)
                go_wp2_with fail
                refine HCj.out.mono ?_
                rintro e w9 ⟨a1, p1, rfl, ho1, hb1⟩
                have HT9 := Lib.hid (HT8.out.below hb1)
                have HO1 := Lib.hid ho1
                have HCk := Lib.hid HT9.out.cells2
                rw [HKl.out] at HCk
                clear ho1 hb1 HCj HT8
                go_wp2_with fail
                refine HCk.out.mono ?_
                rintro e w10 ⟨a2, p2, rfl, ho2, hb2⟩
                have HT10 := Lib.hid (HT9.out.below hb2)
                have HSm := same_any a1 a2 J8.C K8.C p1 p2 w10 (HO1.out.belowB hb2).rd ho2.rd (by rw [HE8.out.2.2.1]; omega) (by rw [HKl.out]; omega)
                rw [decide_eq_true HE8.out.1, HE8.out.2.2.1, HKl.out] at HSm
                have HSm := Lib.hid HSm
                clear ho2 hb2 HT9 HCk HO1
                go_wp2_with fail
                refine HSm.out.mono ?_
                rintro e w11 ⟨rfl, nd, rfl⟩
                have HT11 := Lib.hid (HT10.out.below (below_drewN (Below.refl _ w10) nd))
                clear HT10 HSm
                generalize w10.drewN nd = w11 at *
                have HDp := Lib.hid HT11.out.depth
                rw [HE8.out.2.2.2.length, HN8.out] at HDp
                go_wp2_with fail
                refine HDp.out.mono ?_
                rintro e _ ⟨rfl, rfl⟩
                clear HDp
                by_cases h0 : n8 = 0
                · subst h0
                  go_wp2_with fail
                  go_roundw
                  case rel => exact ⟨k + 1, J8, K8, wo8, wc8, 0, ws8, by omega, HN8.out, rfl, by go_num, HT11.out.free, HE8.out⟩
                  case measure => simp [RowKit.intOf]; omega
                · obtain ⟨lt, ws0, rfl⟩ : ∃ lt ws0, ws8 = lt :: ws0 := by
                    cases ws8 with
                    | nil => exact absurd HN8.out.symm (by simpa using h0)
                    | cons lt ws0 => exact ⟨lt, ws0, rfl⟩
                  obtain ⟨n0, hn0⟩ : ∃ n0, ws0.length = n0 := ⟨_, rfl⟩
                  obtain rfl : n8 = n0 + 1 := by have := HN8.out; rw [List.length_cons] at this; omega
                  have HN0 := Lib.hid hn0
                  clear h0 hn0
                  have hsub : IntKind.i64.wrap (n0 : Int) = n0 := IntWalk.i64_in _ (by omega)
                  have hd1 : 0 ≤ (n0 : Int) := by omega
                  have hd2 : n0 < n0 + 1 := by omega
                  have hd3 : (n0 : Int) < (n0 : Int) + 1 := by omega
                  have HTch := Lib.hid HT11.out.cells
                  rw [HE8.out.2.2.1] at HTch
                  go_wp2_with fail
                  refine HTch.out.mono ?_
                  rintro e w12 ⟨a3, p3, rfl, ho3, hb3⟩
                  have HT12 := Lib.hid (HT11.out.below hb3)
                  have HO3 := Lib.hid ho3
                  have HTc := Lib.hid HT12.out.touched
                  clear ho3 hb3 HT11 HTch
                  have htl : J8.touched.length ≤ 6 := by rw [← HE8.out.2.2.1]; exact touched_len J8
                  go_wp2_with fail
                  refine HTc.out.mono ?_
                  rintro e w13 ⟨a4, p4, rfl, ho4, hb4⟩
                  have HT13 := Lib.hid (HT12.out.below hb4)
                  have HR3 := Lib.hid (HO3.out.belowB hb4).rd
                  have HR4 := Lib.hid ho4.rd
                  clear ho4 hb4 HT12 HO3 HTc
                  go_wp2_with fail
                  go_loopw [12] (fun c wq => ∃ d : Nat, d ≤ 6 ∧ c = .int .i64 d ∧ Below w13.heap.size w13 wq) (fun c _ => 6 - (RowKit.intOf c).toNat)
                  case atStart => exact ⟨0, by omega, rfl, Below.refl _ _⟩
                  case round =>
                    obtain ⟨d, hd6, rfl, hbq⟩ := hrel
                    obtain ⟨wq, hwq⟩ : ∃ wq : World, wq = wr := ⟨_, rfl⟩
                    subst hwq
                    have HTq := Lib.hid (HT13.out.below hbq)
                    have HR3q := Lib.hid (HR3.out.below hbq)
                    have HAm : Hid (∀ w, Below wq.heap.size wq w → Calls Try.prog 33 #[.slice a4 J8.touched.length p4, .int .i64 (d : Int)] w fun e w' => e = .returned (.bool (decide ((d : Int) ∈ J8.touched))) ∧ w' = w) := Lib.hid (fun w hb => among_any a4 J8.touched p4 d w (((HR4.out.below hbq)).below hb) (by omega))
                    have HBq := Lib.hid hbq
                    clear hbq
                    by_cases hlt6 : d < 6
                    · have hlt6i : (d : Int) < 6 := by omega
                      obtain ⟨g, b, o, cp, hwo, hcw, hrd⟩ := HTq.out.top
                      have hlt : lt.length = 6 := by rw [HE8.out.2.2.2.lens lt (List.mem_cons_self ..)]; exact HE8.out.2.2.1
                      rw [HN0.out, hlt] at hcw
                      obtain ⟨b3, o3, hb3, hc3⟩ := HR3q.out d (by rw [HE8.out.2.2.1]; exact hlt6)
                      obtain ⟨b5, o5, hb5, hc5⟩ := hrd d (by rw [hlt]; exact hlt6)
                      simp only [Option.some.injEq, Addr.mk.injEq, and_true] at hb5
                      obtain ⟨rfl, rfl⟩ := hb5
                      subst hwo
                      subst hb3
                      by_cases hin : (d : Int) ∈ J8.touched
                      · rw [decide_eq_true hin] at HAm
                        clear hin hcw hrd hc3 hc5
                        go_wp2_with fail
                        go_quiet ((go_at_call 33; exact Calls.quiet_of_same (HAm.out _ (below_drewN (Below.refl _ _) _))))
                        go_wp2
                        go_roundw
                        case rel => exact ⟨d + 1, by omega, by go_num, HBq.out.trans ((below_drewN (Below.refl _ wq) _).mono HBq.out.size)⟩
                        case measure => simp [RowKit.intOf]; omega
                      · have hsm := HE8.out.2.2.2.same (c := d) (by rw [HE8.out.2.2.1]; exact hlt6) hin
                        rw [hsm] at hc3
                        rw [decide_eq_false hin] at HAm
                        clear hin hsm hrd
                        generalize lt.getD d 0 = y at *
                        go_wp2_with fail
                        go_quiet ((go_at_call 33; exact Calls.quiet_of_same (HAm.out _ (below_drewN (Below.refl _ _) _))))
                        go_wp2
                        go_roundw
                        case rel => exact ⟨d + 1, by omega, by go_num, HBq.out.trans ((below_drewN (Below.refl _ wq) _).mono HBq.out.size)⟩
                        case measure => simp [RowKit.intOf]; omega
                    · obtain rfl : d = 6 := by omega
                      clear hlt6
                      go_wp2_with fail
                      go_roundw
                      case rel => exact ⟨k + 1, J8, K8, wo8, wc8, n0 + 1, lt :: ws0, by omega, HN8.out, rfl, by go_num, HTq.out.free, HE8.out⟩
                      case measure => simp [RowKit.intOf]; omega
            · have hq4 : (kind == 4) = false := beq_false_of_ne h4
              have hq5 : (kind == 5) = false := beq_false_of_ne h5
              have hq6 : (kind == 6) = false := beq_false_of_ne (by omega)
              have hq7 : (kind == 7) = false := beq_false_of_ne (by omega)
              have hn4 : (kind != 4) = true := by rw [bne_iff_ne]; exact h4
              have hn5 : (kind != 5) = true := by rw [bne_iff_ne]; exact h5
              have hob := plain_both HS.out.1 HS.out.2.1 HS.out.2.2.2 kind (i % 6) (q % 6) a h4 h5 (by omega) (by omega)
              have h6' : ¬ kind = 6 := by omega
              have h7' : ¬ kind = 7 := by omega
              have HE8 := Lib.hid (show ((J.does kind (i % 6) (q % 6) a).1.C = (K.does kind (i % 6) (q % 6) a).1.C ∧ (K.does kind (i % 6) (q % 6) a).1.L = [] ∧ (J.does kind (i % 6) (q % 6) a).1.C.length = 6 ∧ Kp (J.does kind (i % 6) (q % 6) a).1.C (J.does kind (i % 6) (q % 6) a).1.U (J.does kind (i % 6) (q % 6) a).1.L ws) from ⟨hob.1, hob.2.2.1, by rw [does_len]; exact HS.out.2.2.1, hob.2.2.2⟩)
              have HDo := Lib.hid (HT2.out.does kind (i % 6) (q % 6) HW.out)
              have hes := hob.2.1
              have HDk := Lib.hid (fun (J' : JS) (w : World) (h : Tws W (fun b => b = wr.heap.size) rj rk J' K wo wc ws w) => h.does2 kind (i % 6) (q % 6) HW.out)
              rw [← hes] at HDk
              clear hob h67 hes
              generalize (J.does kind (i % 6) (q % 6) a).1 = J8 at *
              generalize (J.does kind (i % 6) (q % 6) a).2 = er at *
              generalize (K.does kind (i % 6) (q % 6) a).1 = K8 at *
              go_wp2_with fail
              refine HDo.out.mono ?_
              rintro e w7 ⟨rfl, ht7, hk7⟩
              have HT7 := Lib.hid ht7
              have HX7 := Lib.hid ((hk7.2 _ rfl).trans HX2.out)
              clear d0 d1 d2 d3
              obtain ⟨f0, f1, f2, f3, _⟩ := four HX7.out
              clear ht7 hk7 HDo HX2 HT2
              go_wp2_with fail
              refine (HDk.out _ _ HT7.out).mono ?_
              rintro e w8 ⟨rfl, ht8, hk8⟩
              have HT8 := Lib.hid ht8
              have HX8 := Lib.hid ((hk8.2 _ rfl).trans HX7.out)
              clear f0 f1 f2 f3
              obtain ⟨x0, x1, x2, x3, _⟩ := four HX8.out
              obtain ⟨n8, hn8⟩ : ∃ n8, n8 = n := ⟨_, rfl⟩
              subst hn8
              obtain ⟨ws8, hws8⟩ : ∃ ws8, ws8 = ws := ⟨_, rfl⟩
              subst hws8
              obtain ⟨wo8, hwo8⟩ : ∃ wo8, wo8 = wo := ⟨_, rfl⟩
              subst hwo8
              obtain ⟨wc8, hwc8⟩ : ∃ wc8, wc8 = wc := ⟨_, rfl⟩
              subst hwc8
              have HN8 := HN
              have hn8' := hn64
              clear ht8 hk8 HDk HX7 HX8 HT7 HS HD HN HLn hn64
              have HCj := Lib.hid HT8.out.cells
              rw [HE8.out.2.2.1] at HCj
              have HKl : Hid (K8.C.length = 6) := Lib.hid (by rw [← HE8.out.1]; exact HE8.out.2.2.1)
              go_wp2_with fail
              refine HCj.out.mono ?_
              rintro e w9 ⟨a1, p1, rfl, ho1, hb1⟩
              have HT9 := Lib.hid (HT8.out.below hb1)
              have HO1 := Lib.hid ho1
              have HCk := Lib.hid HT9.out.cells2
              rw [HKl.out] at HCk
              clear ho1 hb1 HCj HT8
              go_wp2_with fail
              refine HCk.out.mono ?_
              rintro e w10 ⟨a2, p2, rfl, ho2, hb2⟩
              have HT10 := Lib.hid (HT9.out.below hb2)
              have HSm := same_any a1 a2 J8.C K8.C p1 p2 w10 (HO1.out.belowB hb2).rd ho2.rd (by rw [HE8.out.2.2.1]; omega) (by rw [HKl.out]; omega)
              rw [decide_eq_true HE8.out.1, HE8.out.2.2.1, HKl.out] at HSm
              have HSm := Lib.hid HSm
              clear ho2 hb2 HT9 HCk HO1
              go_wp2_with fail
              refine HSm.out.mono ?_
              rintro e w11 ⟨rfl, nd, rfl⟩
              have HT11 := Lib.hid (HT10.out.below (below_drewN (Below.refl _ w10) nd))
              clear HT10 HSm
              generalize w10.drewN nd = w11 at *
              have HDp := Lib.hid HT11.out.depth
              rw [HE8.out.2.2.2.length, HN8.out] at HDp
              go_wp2_with fail
              refine HDp.out.mono ?_
              rintro e _ ⟨rfl, rfl⟩
              clear HDp
              by_cases h0 : n8 = 0
              · subst h0
                go_wp2_with fail
                go_roundw
                case rel => exact ⟨k + 1, J8, K8, wo8, wc8, 0, ws8, by omega, HN8.out, rfl, by go_num, HT11.out.free, HE8.out⟩
                case measure => simp [RowKit.intOf]; omega
              · obtain ⟨lt, ws0, rfl⟩ : ∃ lt ws0, ws8 = lt :: ws0 := by
                  cases ws8 with
                  | nil => exact absurd HN8.out.symm (by simpa using h0)
                  | cons lt ws0 => exact ⟨lt, ws0, rfl⟩
                obtain ⟨n0, hn0⟩ : ∃ n0, ws0.length = n0 := ⟨_, rfl⟩
                obtain rfl : n8 = n0 + 1 := by have := HN8.out; rw [List.length_cons] at this; omega
                have HN0 := Lib.hid hn0
                clear h0 hn0
                have hsub : IntKind.i64.wrap (n0 : Int) = n0 := IntWalk.i64_in _ (by omega)
                have hd1 : 0 ≤ (n0 : Int) := by omega
                have hd2 : n0 < n0 + 1 := by omega
                have hd3 : (n0 : Int) < (n0 : Int) + 1 := by omega
                have HTch := Lib.hid HT11.out.cells
                rw [HE8.out.2.2.1] at HTch
                go_wp2_with fail
                refine HTch.out.mono ?_
                rintro e w12 ⟨a3, p3, rfl, ho3, hb3⟩
                have HT12 := Lib.hid (HT11.out.below hb3)
                have HO3 := Lib.hid ho3
                have HTc := Lib.hid HT12.out.touched
                clear ho3 hb3 HT11 HTch
                have htl : J8.touched.length ≤ 6 := by rw [← HE8.out.2.2.1]; exact touched_len J8
                go_wp2_with fail
                refine HTc.out.mono ?_
                rintro e w13 ⟨a4, p4, rfl, ho4, hb4⟩
                have HT13 := Lib.hid (HT12.out.below hb4)
                have HR3 := Lib.hid (HO3.out.belowB hb4).rd
                have HR4 := Lib.hid ho4.rd
                clear ho4 hb4 HT12 HO3 HTc
                go_wp2_with fail
                go_loopw [12] (fun c wq => ∃ d : Nat, d ≤ 6 ∧ c = .int .i64 d ∧ Below w13.heap.size w13 wq) (fun c _ => 6 - (RowKit.intOf c).toNat)
                case atStart => exact ⟨0, by omega, rfl, Below.refl _ _⟩
                case round =>
                  obtain ⟨d, hd6, rfl, hbq⟩ := hrel
                  obtain ⟨wq, hwq⟩ : ∃ wq : World, wq = wr := ⟨_, rfl⟩
                  subst hwq
                  have HTq := Lib.hid (HT13.out.below hbq)
                  have HR3q := Lib.hid (HR3.out.below hbq)
                  have HAm : Hid (∀ w, Below wq.heap.size wq w → Calls Try.prog 33 #[.slice a4 J8.touched.length p4, .int .i64 (d : Int)] w fun e w' => e = .returned (.bool (decide ((d : Int) ∈ J8.touched))) ∧ w' = w) := Lib.hid (fun w hb => among_any a4 J8.touched p4 d w (((HR4.out.below hbq)).below hb) (by omega))
                  have HBq := Lib.hid hbq
                  clear hbq
                  by_cases hlt6 : d < 6
                  · have hlt6i : (d : Int) < 6 := by omega
                    obtain ⟨g, b, o, cp, hwo, hcw, hrd⟩ := HTq.out.top
                    have hlt : lt.length = 6 := by rw [HE8.out.2.2.2.lens lt (List.mem_cons_self ..)]; exact HE8.out.2.2.1
                    rw [HN0.out, hlt] at hcw
                    obtain ⟨b3, o3, hb3, hc3⟩ := HR3q.out d (by rw [HE8.out.2.2.1]; exact hlt6)
                    obtain ⟨b5, o5, hb5, hc5⟩ := hrd d (by rw [hlt]; exact hlt6)
                    simp only [Option.some.injEq, Addr.mk.injEq, and_true] at hb5
                    obtain ⟨rfl, rfl⟩ := hb5
                    subst hwo
                    subst hb3
                    by_cases hin : (d : Int) ∈ J8.touched
                    · rw [decide_eq_true hin] at HAm
                      clear hin hcw hrd hc3 hc5
                      go_wp2_with fail
                      go_quiet ((go_at_call 33; exact Calls.quiet_of_same (HAm.out _ (below_drewN (Below.refl _ _) _))))
                      go_wp2
                      go_roundw
                      case rel => exact ⟨d + 1, by omega, by go_num, HBq.out.trans ((below_drewN (Below.refl _ wq) _).mono HBq.out.size)⟩
                      case measure => simp [RowKit.intOf]; omega
                    · have hsm := HE8.out.2.2.2.same (c := d) (by rw [HE8.out.2.2.1]; exact hlt6) hin
                      rw [hsm] at hc3
                      rw [decide_eq_false hin] at HAm
                      clear hin hsm hrd
                      generalize lt.getD d 0 = y at *
                      go_wp2_with fail
                      go_quiet ((go_at_call 33; exact Calls.quiet_of_same (HAm.out _ (below_drewN (Below.refl _ _) _))))
                      go_wp2
                      go_roundw
                      case rel => exact ⟨d + 1, by omega, by go_num, HBq.out.trans ((below_drewN (Below.refl _ wq) _).mono HBq.out.size)⟩
                      case measure => simp [RowKit.intOf]; omega
                  · obtain rfl : d = 6 := by omega
                    clear hlt6
                    go_wp2_with fail
                    go_roundw
                    case rel => exact ⟨k + 1, J8, K8, wo8, wc8, n0 + 1, lt :: ws0, by omega, HN8.out, rfl, by go_num, HTq.out.free, HE8.out⟩
                    case measure => simp [RowKit.intOf]; omega
    · obtain rfl : k = m := by omega
      have hsub0 : IntKind.i64.wrap ((n : Int) - 1) = n - 1 := IntWalk.i64_in _ (by omega)
      clear hlt hLn
      go_wp2_with fail
      go_loopw [13] (fun c wr => ∃ (p : Nat) (J' : JS) (pre rest : List (List Int)), ws = pre ++ rest ∧ rest.length = p ∧ c = .int .i64 ((p : Int) - 1) ∧ Tws W (fun _ => False) rj rk J' K wo wc ws wr ∧ J'.C.length = 6 ∧ Kp J'.C J'.U J'.L rest) (fun c _ => ((RowKit.intOf c) + 1).toNat)
      case atStart => exact ⟨n, J, [], ws, rfl, HN.out, rfl, HT.out, HS.out.2.2.1, HS.out.2.2.2⟩
      case round =>
        obtain ⟨wq, hwq⟩ : ∃ wq : World, wq = wr := ⟨_, rfl⟩
        subst hwq
        clear HT HS
        obtain ⟨p, J', pre, rest, hws, hp, rfl, ht, hl6, hkp⟩ := hrel
        by_cases h0 : p = 0
        · subst h0
          have HB := Lib.hid ht.base
          clear ht hl6 hkp hp hws
          go_wp2_with fail
          go_ret
          exact ⟨rfl, HB.out⟩
        · obtain ⟨l0, rest0, rfl⟩ : ∃ l0 rest0, rest = l0 :: rest0 := by
            cases rest with
            | nil => simp at hp; omega
            | cons a b => exact ⟨a, b, rfl⟩
          obtain ⟨p0, hp0⟩ : ∃ p0, p0 = rest0.length := ⟨_, rfl⟩
          obtain rfl : p = p0 + 1 := by rw [List.length_cons] at hp; omega
          have hpn : p0 < n := by have := HN.out; rw [hws, List.length_append, List.length_cons] at this; omega
          have hpi : (p0 : Int) < n := by omega
          have hpz : (0 : Int) ≤ p0 := by omega
          have hc1 : ((p0 + 1 : Nat) : Int) - 1 = p0 := by omega
          rw [hc1]
          have hu := hkp.undo
          have hll : l0.length = 6 := by rw [hkp.lens l0 (List.mem_cons_self ..)]; exact hl6
          obtain ⟨g, _, _, _, hwo, _, _⟩ := (show Tws W (fun _ => False) rj rk J' K wo wc (pre ++ l0 :: rest0) wq by rw [← hws]; exact ht).nth
          subst hwo
          have HU : Hid (∀ w, Below wq.heap.size wq w → Calls Try.prog 34 #[.pointer (some ⟨rj, 0, none⟩)] w fun e w' => e = .returned (.int .i64 J'.undo.2) ∧ (Tws W (fun _ => False) rj rk J'.undo.1 K (some ⟨g, 0, none⟩) wc ws w' ∧ Kept (fun _ => False) w w')) := Lib.hid fun w hb => (ht.below hb).undo
          rw [hu.1] at HU
          have HUL := Lib.hid hu.2
          have HAt : Hid (∀ (J : JS) (w : World), Tws W (fun _ => False) rj rk J K (some ⟨g, 0, none⟩) wc ws w → ∃ b o cap, w.cell? ⟨g, p0, none⟩ = some (.slice (some ⟨b, o, none⟩) 6 cap) ∧ Rd w (some ⟨b, o, none⟩) l0) := Lib.hid fun J w h => by
            rw [hws] at h
            obtain ⟨g', b, o, cap, h1, h2, h3⟩ := h.nth
            simp only [Option.some.injEq, Addr.mk.injEq, and_true] at h1
            subst h1
            rw [← hp0, hll] at h2
            exact ⟨b, o, cap, h2, h3⟩
          have HJl : Hid (J'.undo.1.C.length = 6) := Lib.hid (by rw [undo_len]; exact hl6)
          have HWs := Lib.hid hws
          have HLl := Lib.hid hll
          have HP0 := Lib.hid hp0
          clear hu ht hl6 hkp hp hws hll hp0 h0
          generalize J'.undo.1 = J8 at *
          go_wp2_with fail
          go_region_law (first | (go_simp; go_at_call 34; refine (HU.out _ (by exact (Below.refl _ _).drew)).mono ?_; rintro e w2 ⟨rfl, ht2, _⟩; obtain ⟨b, o, cap, hc2, hr2⟩ := HAt.out _ _ ht2; have HC2 := ht2.cells; rw [HJl.out] at HC2) | (go_simp; go_at_call 26; refine HC2.mono ?_; rintro e w3 ⟨ao, cp, rfl, ho3, hb3⟩; have hc3 := (hb3.cell (p := ⟨g, p0, none⟩) (World.block_lt_of_cell? _ _ hc2)).trans hc2; have hr3 := hr2.below hb3; have HSm := same_any ao (some ⟨b, o, none⟩) J8.C l0 cp cap w3 ho3.rd hr3 (by rw [HJl.out]; omega) (by rw [HLl.out]; omega); rw [decide_eq_true HUL.out.1, HJl.out, HLl.out] at HSm) | (go_simp; go_at_call 25; refine HSm.mono ?_; rintro e w4 ⟨rfl, nd, rfl⟩))
          all_goals
            have HT9 := Lib.hid ((ht2.below hb3).below (below_drewN (Below.refl _ _) nd))
            clear ht2 hc2 hr2 HC2 ho3 hb3 hc3 hr3 HSm HU HAt
            go_wp2_with fail
            go_roundw
            case rel => exact ⟨p0, J8, pre ++ [l0], rest0, by rw [HWs.out]; simp, HP0.out.symm, by go_num, HT9.out, HJl.out, HUL.out.2⟩
            case measure => simp [RowKit.intOf]
set_option maxRecDepth 100000 in
set_option maxHeartbeats 3200000 in
theorem journalKeeps_far (W : World) (la : Option Addr) (m lc : Nat) (h : 60 < m) :
    Calls Try.prog 6 #[.slice la m lc] W fun e w' => e = .returned (.bool true) ∧ Below W.heap.size W w' := by
  have hI := Int.ofNat_lt.2 h
  go_enter Try.func6, Try.ntmps6
  go_wp2_with fail
  refine (journalKnown_any W).mono ?_
  rintro e w1 ⟨rfl, hb⟩
  have HB1 := Lib.hid hb
  clear hb
  go_wp2_with fail
  go_ret
  exact ⟨rfl, HB1.out⟩
theorem journalKeeps_any (W : World) (la : Option Addr) (l : List Ac) (m lc : Nat) (hln : l.length = m) (hA : ActsAt W la l) (hI : AcsIn l) :
    Calls Try.prog 6 #[.slice la m lc] W fun e w' => e = .returned (.bool true) ∧ Below W.heap.size W w' := by
  rcases Nat.lt_or_ge 60 m with h | h
  · exact journalKeeps_far W la m lc h
  · exact journalKeeps_near W la l m lc hln h hA hI
end Go.Proofs.Ytkpfnonacebmkaa
