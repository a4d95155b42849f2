/- journal: Back, Depth, Cells, New. -/
import Derived.Test.YtkpfnonacebmkaaUn
import Derived.Laws.MakeOwn
namespace Go.Proofs.Ytkpfnonacebmkaa
open Go.RowKit

/-- So many levels are undone. -/
def JS.undoN : Nat → JS → JS
  | 0, J => J
  | k + 1, J => (JS.undoN k J).undo.1
theorem undo_L (J : JS) : J.undo.1.L = J.L.tail := by
  unfold JS.undo
  cases h : J.L with
  | nil => simp [h]
  | cons p L' => rfl
theorem undoN_L (J : JS) : ∀ k, (JS.undoN k J).L = J.L.drop k
  | 0 => rfl
  | k + 1 => by rw [JS.undoN, undo_L, undoN_L J k, List.tail_drop]
def JS.back (J : JS) (d : Int) : JS × Int := if d < 0 ∨ (J.L.length : Int) < d then (J, 3) else (JS.undoN (J.L.length - d.toNat) J, 0)

section
variable {W : World} {M F : Nat → Prop} {r : Nat} {J : JS}
set_option maxRecDepth 100000 in
set_option maxHeartbeats 1600000 in
theorem back_all (h : Jn W M F r J) (d : Int) :
    Calls Try.prog 18 #[.pointer (some ⟨r, 0, none⟩), .int .i64 d] W fun e w' => e = .returned (.int .i64 (J.back d).2) ∧ Jst W M F r w' (J.back d).1 := by
  have HH := Lib.hid h
  obtain ⟨cb, cc, ps, lv, bs, h⟩ := h
  obtain ⟨lo, lc, rfl, hob⟩ := lv_len h.row
  have HN := Lib.hid h.none_any
  obtain ⟨a0, a1, a2, f0, f1, f2⟩ := three h.hr
  have hdp := h.ok.dp
  by_cases h0 : d < 0
  · have HB : Hid (J.back d = (J, 3)) := Lib.hid (by unfold JS.back; rw [if_pos (Or.inl h0)])
    clear h hob
    go_enter Try.func18, Try.ntmps18
    go_wp2_with fail
    refine HN.out.mono ?_
    rintro e w' ⟨rfl, rfl⟩
    go_wp2_with fail
    go_ret
    rw [HB.out]
    exact ⟨rfl, Jst.same HH.out (Below.refl _ _)⟩
  · by_cases h1 : (J.L.length : Int) < d
    · have HB : Hid (J.back d = (J, 3)) := Lib.hid (by unfold JS.back; rw [if_pos (Or.inr h1)])
      have h0' : 0 ≤ d := by omega
      clear h hob h0
      go_enter Try.func18, Try.ntmps18
      go_wp2_with fail
      refine HN.out.mono ?_
      rintro e w' ⟨rfl, rfl⟩
      go_wp2_with fail
      go_ret
      rw [HB.out]
      exact ⟨rfl, Jst.same HH.out (Below.refl _ _)⟩
    · have HB : Hid (J.back d = (JS.undoN (J.L.length - d.toNat) J, 0)) := Lib.hid (by unfold JS.back; rw [if_neg (by omega)])
      obtain ⟨k, rfl⟩ : ∃ k : Nat, d = k := ⟨d.toNat, by omega⟩
      rw [Int.toNat_natCast] at HB
      have hk : k ≤ J.L.length := by omega
      have hk0 : (k : Int) ≤ J.L.length := by omega
      have hk1 : (0 : Int) ≤ k := by omega
      have q1 : decide (J.L.length < k) = false := decide_eq_false (by omega)
      have q2 : decide ((k : Int) < 0) = false := decide_eq_false (by omega)
      clear h hob h0 h1
      go_enter Try.func18, Try.ntmps18
      go_wp2_with fail
      refine HN.out.mono ?_
      rintro e w' ⟨rfl, rfl⟩
      go_wp2_with fail
      clear a0 a1 a2 f0 f1 f2
      go_loopg [20] (J.L.length - k) (fun n _ wr => ∃ q, q + n = J.L.length - k ∧ Jst W M F r wr (JS.undoN q J))
      case atStart => exact ⟨0, by omega, Jst.same HH.out (Below.refl _ _)⟩
      case round =>
        obtain ⟨q, hq, M1, F1, hj, hst⟩ := hrel
        have hL := undoN_L J q
        have HU := Lib.hid (undo_any hj)
        have HJ := Lib.hid hj
        obtain ⟨cb', cc', ps', lv', bs', hj⟩ := hj
        obtain ⟨lo', lc', rfl, _⟩ := lv_len hj.row
        obtain ⟨a0, a1, a2, f0, f1, f2⟩ := three hj.hr
        have hlen : (JS.undoN q J).L.length = k + gk := by rw [hL, List.length_drop]; omega
        rw [hlen] at a2
        have HS := Lib.hid hst
        have HQ := Lib.hid (And.intro hq hlen)
        clear hj hst hL hq hlen
        by_cases hz : gk = 0
        · subst hz
          obtain rfl : q = J.L.length - k := by have := HQ.out.1; omega
          go_wp2_with fail
          go_ret
          rw [HB.out]
          exact ⟨rfl, _, _, HJ.out, HS.out⟩
        · have hz' : k < k + gk := by omega
          have hz2 : (k : Int) < (k : Int) + gk := by omega
          clear hz
          go_wp2_with fail
          refine HU.out.mono ?_
          rintro e w5 ⟨rfl, hjn⟩
          have HN5 := Lib.hid hjn
          clear hjn
          go_wp2_with fail
          go_roundg (gk - 1)
          case measure => omega
          case rel => exact ⟨q + 1, by have := HQ.out.1; omega, Jst.trans HS.out HN5.out⟩

set_option maxRecDepth 100000 in
set_option maxHeartbeats 800000 in
theorem depth_any (h : Jn W M F r J) : Calls Try.prog 24 #[.pointer (some ⟨r, 0, none⟩)] W fun e w' => e = .returned (.int .i64 J.L.length) ∧ W = w' := by
  obtain ⟨cb, cc, ps, lv, bs, h⟩ := h
  obtain ⟨lo, lc, rfl, hob⟩ := lv_len h.row
  have HN := Lib.hid h.none_any
  obtain ⟨a0, a1, a2, f0, f1, f2⟩ := three h.hr
  clear h hob
  go_enter Try.func24, Try.ntmps24
  go_wp2_with fail
  refine HN.out.mono ?_
  rintro e w' ⟨rfl, rfl⟩
  go_wp2_with fail
  go_ret
  exact ⟨rfl, rfl⟩

set_option maxRecDepth 100000 in
set_option maxHeartbeats 800000 in
theorem cells_any (h : Jn W M F r J) : Calls Try.prog 26 #[.pointer (some ⟨r, 0, none⟩)] W fun e w' => ∃ ao cap, e = .returned (.slice ao J.C.length cap) ∧ OwnW w' W.heap.size ao cap J.C ∧ Below W.heap.size W w' := by
  obtain ⟨cb, cc, ps, lv, bs, h⟩ := h
  have HN := Lib.hid h.none_any
  obtain ⟨a0, a1, a2, f0, f1, f2⟩ := three h.hr
  have HC := Lib.hid (cloneW_any _ J.C cc W h.cells.rd (by have := h.ok.most; omega))
  clear h
  go_enter Try.func26, Try.ntmps26
  go_wp2_with fail
  refine HN.out.mono ?_
  rintro e w' ⟨rfl, rfl⟩
  go_wp2_with fail
  refine HC.out.mono ?_
  rintro e w' ⟨ao, cap, rfl, hown, hb⟩
  have HO := Lib.hid (And.intro hown hb)
  clear hown hb
  go_wp2_with fail
  go_ret
  exact ⟨ao, cap, rfl, HO.out.1, HO.out.2⟩

theorem made_zero (n : Nat) : madeCells #[Value.int .u64 0] (n * 1) = (List.replicate n (Value.int .u64 0)).toArray := by
  apply Array.ext
  · simp [madeCells]
  · intro i h1 h2
    simp [madeCells, Nat.mod_one]
theorem made_run (n : Nat) (h : n ≤ 4096) (w : World) : (Instr.makeSlice 43 (.int .i64 (n : Int)) (.int .i64 (n : Int))).run Try.prog w = .ok (.slice (some ⟨w.heap.size, 0, none⟩) n n) (w.alloc (.cells (List.replicate n (Value.int .u64 0)).toArray 33)) := by
  obtain ⟨i0, hi, hz0, hz1, hz2⟩ := info_parts Try.info33
  have hr := run_make (P := Try.prog) w 43 33 i0 (.int .u64 0) Try.underlying43 hi hz0 .i64 .i64 n n (by omega) (Int.le_refl _) (by rw [hz2]; omega) (by omega)
  rw [Int.toNat_natCast, hz1] at hr
  rw [hr]
  exact congrArg (fun c => Result.ok _ (w.alloc (.cells c 33))) (made_zero n)
theorem new_far (n : Int) (w : World) (h : n < 1 ∨ 4096 < n) : Calls Try.prog 10 #[.int .i64 n] w fun e w' => e = .returned (.tuple #[.pointer none, .int .i64 3]) ∧ w = w' := by
  by_cases h1 : n < 1
  · clear h
    go_enter Try.func10, Try.ntmps10
    go_wp2
    go_ret2
    exact ⟨rfl, rfl⟩
  · have h2 : 4096 < n := by omega
    have h3 : 1 ≤ n := by omega
    clear h h1
    go_enter Try.func10, Try.ntmps10
    go_wp2
    go_ret2
    exact ⟨rfl, rfl⟩
def JS.new (n : Nat) : JS := ⟨List.replicate n 0, [], []⟩
set_option maxRecDepth 100000 in
set_option maxHeartbeats 800000 in
theorem new_near (n : Nat) (w : World) (h0 : 1 ≤ n) (h1 : n ≤ 4096) : Calls Try.prog 10 #[.int .i64 n] w fun e w' => ∃ r M F, e = .returned (.tuple #[.pointer (some ⟨r, 0, none⟩), .int .i64 0]) ∧ Jn w' M F r (JS.new n) ∧ (∀ k, F k → w.heap.size ≤ k) ∧ Below w.heap.size w w' := by
  have h2 : (1 : Int) ≤ n := by omega
  have h3 : (n : Int) ≤ 4096 := by omega
  obtain ⟨i0, hi, hz0, hz1, hz2⟩ := info_parts Try.info33
  have hmk := made_run n h1
  have q1 : decide ((n : Int) < 1) = false := decide_eq_false (by omega)
  have q2 : decide (4096 < (n : Int)) = false := decide_eq_false (by omega)
  go_enter Try.func10, Try.ntmps10
  go_wp2_with fail
  go_ret2
  have hlen : (JS.new n).C.length = n := by simp [JS.new]
  refine ⟨w.heap.size + 1, fun k => k = w.heap.size ∨ k = w.heap.size + 1, fun k => k = w.heap.size ∨ k = w.heap.size + 1, rfl, ⟨w.heap.size, n, [], .slice none 0 0, [], ?_⟩, ?_, ?_⟩
  · refine ⟨?_, ?_, trivial, LRow.nil _ _ _, trivial, List.nodup_nil, .inr rfl, .inl rfl, fun g e => by simp [Value.ownBlock] at e, by simp, fun _ h => h, ?_, ?_⟩
    · rw [hlen]; exact heap_at (w.alloc _) _ (by simp)
    · have h1 : OwnC (w.alloc (.cells (List.replicate n (Value.int .u64 0)).toArray 33)) w.heap.size n (JS.new n).C := by
        refine ⟨by simp, .inr ⟨w.heap.size, n, (List.replicate n (Value.int .u64 0)).toArray, by rw [hlen], Nat.zero_le _, heap_at w _ rfl, by rw [hlen]; exact Nat.le_refl _, by simp only [maxLen]; omega, by simp, by simp [JS.new]⟩⟩
      exact h1.kept (heap_old _ _ (by simp))
    · rintro k (rfl | rfl) <;> (simp; try omega)
    · exact ⟨by rw [hlen]; omega, by rw [hlen]; exact ‹n ≤ 4096›, fun x hx => by simp [JS.new] at hx; rw [hx.2]; exact ⟨by omega, by omega⟩, by simp [JS.new], by simp [JS.new], by simp [JS.new], by simp [JS.new], by simp [JS.new]⟩
  · rintro k (rfl | rfl) <;> omega
  · exact ((Below.refl _ _).alloc (Nat.le_refl _) _).alloc (by simp) _
end
end Go.Proofs.Ytkpfnonacebmkaa
