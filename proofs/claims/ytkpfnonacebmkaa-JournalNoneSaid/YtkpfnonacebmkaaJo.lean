/- The acts on a journal; a journal of the call's own, beside guests that it leaves alone. -/
import Derived.Test.YtkpfnonacebmkaaMo
namespace Go.Proofs.Ytkpfnonacebmkaa
open Go.RowKit

/-- An act: what it makes, what it tells. -/
def JS.does (J : JS) (kind i k n : Int) : JS × Int :=
  if kind = 0 then J.set i n else if kind = 1 then J.chg i n addR else if kind = 2 then J.chg i n subR else if kind = 3 then J.move i k n else
  if kind = 4 then (J.begin.1, J.begin.2.2) else if kind = 5 then J.keep else if kind = 6 then J.undo else if kind = 7 then J.back i else (J, 0)
section
variable {W : World} {M F : Nat → Prop} {r : Nat} {J : JS}
def DoesP (W : World) (M F : Nat → Prop) (r : Nat) (J : JS) (kind i k n : Int) (e : Ending) (w' : World) : Prop := e = .returned (.int .i64 (J.does kind i k n).2) ∧ Jst W M F r w' (J.does kind i k n).1
theorem DoesP.of {J : JS} {kind i k n er : Int} {J' : JS} (h : J.does kind i k n = (J', er)) {W W1 w' : World} (hb : Below W.heap.size W W1) (hj : Jst W1 M F r w' J') : DoesP W M F r J kind i k n (.returned (.int .i64 er)) w' := by
  unfold DoesP; rw [h]; exact ⟨rfl, Jst.trans (Stp.of_below M F hb) hj⟩
set_option maxRecDepth 100000 in
set_option maxHeartbeats 3200000 in
theorem does_any (h : Jn W M F r J) (kind i k : Int) {n : Int} (hn : W64 n) :
    Calls Try.prog 31 #[.pointer (some ⟨r, 0, none⟩), .agg #[.int .i64 kind, .int .i64 i, .int .i64 k, .int .u64 n]] W (DoesP W M F r J kind i k n) := by
  have hb := (Below.refl W.heap.size W).alloc (Nat.le_refl _) (.cells #[.int .i64 kind, .int .i64 i, .int .i64 k, .int .u64 n] 50)
  have h1 := h.below hb
  have HB := Lib.hid hb
  have HD : Hid (J.does kind i k n = if kind = 0 then J.set i n else if kind = 1 then J.chg i n addR else if kind = 2 then J.chg i n subR else if kind = 3 then J.move i k n else
    if kind = 4 then (J.begin.1, J.begin.2.2) else if kind = 5 then J.keep else if kind = 6 then J.undo else if kind = 7 then J.back i else (J, 0)) := Lib.hid rfl
  by_cases c0 : kind = 0
  · subst c0
    have HC := Lib.hid (set_any h1 i hn)
    clear h h1 hb hn
    go_enter Try.func31, Try.ntmps31
    go_wp2_with fail
    refine HC.out.mono ?_
    rintro e w' ⟨rfl, hj⟩
    have HJ := Lib.hid hj
    clear hj
    go_wp2_with fail
    go_ret
    exact DoesP.of (by rw [HD.out]; rfl) HB.out HJ.out
  by_cases c1 : kind = 1
  · subst c1
    have HC := Lib.hid (jadd_any h1 i hn)
    clear h h1 hb hn
    go_enter Try.func31, Try.ntmps31
    go_wp2_with fail
    refine HC.out.mono ?_
    rintro e w' ⟨rfl, hj⟩
    have HJ := Lib.hid hj
    clear hj
    go_wp2_with fail
    go_ret
    exact DoesP.of (by rw [HD.out]; rfl) HB.out HJ.out
  by_cases c2 : kind = 2
  · subst c2
    have HC := Lib.hid (jsub_any h1 i hn)
    clear h h1 hb hn
    go_enter Try.func31, Try.ntmps31
    go_wp2_with fail
    refine HC.out.mono ?_
    rintro e w' ⟨rfl, hj⟩
    have HJ := Lib.hid hj
    clear hj
    go_wp2_with fail
    go_ret
    exact DoesP.of (by rw [HD.out]; rfl) HB.out HJ.out
  by_cases c3 : kind = 3
  · subst c3
    have HC := Lib.hid (move_any h1 i k hn)
    clear h h1 hb hn
    go_enter Try.func31, Try.ntmps31
    go_wp2_with fail
    refine HC.out.mono ?_
    rintro e w' ⟨rfl, hj⟩
    have HJ := Lib.hid hj
    clear hj
    go_wp2_with fail
    go_ret
    exact DoesP.of (by rw [HD.out]; rfl) HB.out HJ.out
  by_cases c4 : kind = 4
  · subst c4
    have HC := Lib.hid (begin_any h1)
    clear h h1 hb hn
    go_enter Try.func31, Try.ntmps31
    go_wp2_with fail
    refine HC.out.mono ?_
    rintro e w' ⟨rfl, hj⟩
    have HJ := Lib.hid hj
    clear hj
    go_wp2_with fail
    go_ret
    exact DoesP.of (by rw [HD.out]; rfl) HB.out HJ.out
  by_cases c5 : kind = 5
  · subst c5
    have HC := Lib.hid (keep_any h1)
    clear h h1 hb hn
    go_enter Try.func31, Try.ntmps31
    go_wp2_with fail
    refine HC.out.mono ?_
    rintro e w' ⟨rfl, hj⟩
    have HJ := Lib.hid hj
    clear hj
    go_wp2_with fail
    go_ret
    exact DoesP.of (by rw [HD.out]; rfl) HB.out HJ.out
  by_cases c6 : kind = 6
  · subst c6
    have HC := Lib.hid (undo_any h1)
    clear h h1 hb hn
    go_enter Try.func31, Try.ntmps31
    go_wp2_with fail
    refine HC.out.mono ?_
    rintro e w' ⟨rfl, hj⟩
    have HJ := Lib.hid hj
    clear hj
    go_wp2_with fail
    go_ret
    exact DoesP.of (by rw [HD.out]; rfl) HB.out HJ.out
  by_cases c7 : kind = 7
  · subst c7
    have HC := Lib.hid (back_all h1 i)
    clear h h1 hb hn
    go_enter Try.func31, Try.ntmps31
    go_wp2_with fail
    refine HC.out.mono ?_
    rintro e w' ⟨rfl, hj⟩
    have HJ := Lib.hid hj
    clear hj
    go_wp2_with fail
    go_ret
    exact DoesP.of (by rw [HD.out]; rfl) HB.out HJ.out
  have q0 : (kind == 0) = false := by rw [beq_eq_false_iff_ne]; assumption
  have q1 : (kind == 1) = false := by rw [beq_eq_false_iff_ne]; assumption
  have q2 : (kind == 2) = false := by rw [beq_eq_false_iff_ne]; assumption
  have q3 : (kind == 3) = false := by rw [beq_eq_false_iff_ne]; assumption
  have q4 : (kind == 4) = false := by rw [beq_eq_false_iff_ne]; assumption
  have q5 : (kind == 5) = false := by rw [beq_eq_false_iff_ne]; assumption
  have q6 : (kind == 6) = false := by rw [beq_eq_false_iff_ne]; assumption
  have q7 : (kind == 7) = false := by rw [beq_eq_false_iff_ne]; assumption
  have HV : Hid (J.does kind i k n = (J, 0)) := Lib.hid (by rw [HD.out, if_neg c0, if_neg c1, if_neg c2, if_neg c3, if_neg c4, if_neg c5, if_neg c6, if_neg c7])
  have HJ := Lib.hid (Jst.same h1 (Below.refl _ _))
  clear h h1 hb hn HD c0 c1 c2 c3 c4 c5 c6 c7
  go_enter Try.func31, Try.ntmps31
  go_wp2_with fail
  go_ret
  exact DoesP.of HV.out HB.out HJ.out

/-- A journal of the call's own (W: the world ahead of the call), beside guests G that it is not made of. -/
structure JoG (W : World) (G M F : Nat → Prop) (r : Nat) (J : JS) (w : World) : Prop where
  jn : Jn w M F r J
  lo : ∀ k, F k → W.heap.size ≤ k
  b : Below W.heap.size W w
  g : ∀ k, G k → k < w.heap.size ∧ ¬ F k
def Jo (W : World) (G : Nat → Prop) (r : Nat) (J : JS) (w : World) : Prop := ∃ M F, JoG W G M F r J w
/-- The guests are as they were. -/
def Kept (G : Nat → Prop) (w w' : World) : Prop := w.heap.size ≤ w'.heap.size ∧ ∀ k, G k → w'.heap[k]? = w.heap[k]?
theorem Jn.mf {w : World} {M F : Nat → Prop} {r : Nat} {J : JS} (h : Jn w M F r J) : ∀ k, M k → F k := by obtain ⟨_, _, _, _, _, h⟩ := h; exact h.mf
theorem Jn.ok {w : World} {M F : Nat → Prop} {r : Nat} {J : JS} (h : Jn w M F r J) : J.Ok := by obtain ⟨_, _, _, _, _, h⟩ := h; exact h.ok
theorem JoG.act {W w w' : World} {G M F : Nat → Prop} {r : Nat} {J J' : JS} (h : JoG W G M F r J w) (hj : Jst w M F r w' J') : Jo W G r J' w' ∧ Kept G w w' := by
  obtain ⟨M', F', hn, hs⟩ := hj
  have hm := h.jn.mf
  refine ⟨⟨M', F', hn, fun k hk => ?_, h.b.trans (hs.below h.b.size fun k hk => h.lo k (hm k hk)), fun k hk => ?_⟩, hs.size, fun k hk => hs.block k (h.g k hk).1 fun hM => (h.g k hk).2 (hm k hM)⟩
  · rcases hs.ff k hk with h1 | h1
    · exact h.lo k h1
    · exact Nat.le_trans h.b.size h1
  · obtain ⟨h1, h2⟩ := h.g k hk
    refine ⟨Nat.lt_of_lt_of_le h1 hs.size, fun hF => ?_⟩
    rcases hs.ff k hF with h3 | h3
    · exact h2 h3
    · omega
theorem Jo.below {W w w' : World} {G : Nat → Prop} {r : Nat} {J : JS} (h : Jo W G r J w) (hb : Below w.heap.size w w') : Jo W G r J w' := by
  obtain ⟨M, F, h⟩ := h
  exact ⟨M, F, h.jn.below hb, h.lo, h.b.trans (hb.mono h.b.size), fun k hk => ⟨Nat.lt_of_lt_of_le (h.g k hk).1 hb.size, (h.g k hk).2⟩⟩
theorem Jo.base {W w : World} {G : Nat → Prop} {r : Nat} {J : JS} (h : Jo W G r J w) : Below W.heap.size W w := by obtain ⟨M, F, h⟩ := h; exact h.b
theorem Jo.jn {W w : World} {G : Nat → Prop} {r : Nat} {J : JS} (h : Jo W G r J w) : ∃ M F, Jn w M F r J := by obtain ⟨M, F, h⟩ := h; exact ⟨M, F, h.jn⟩
theorem Jo.ok {W w : World} {G : Nat → Prop} {r : Nat} {J : JS} (h : Jo W G r J w) : J.Ok := by obtain ⟨M, F, h⟩ := h; exact h.jn.ok
theorem Kept.of_below {G : Nat → Prop} {w w' : World} (hb : Below w.heap.size w w') (hg : ∀ k, G k → k < w.heap.size) : Kept G w w' := ⟨hb.size, fun k hk => hb.block k (hg k hk)⟩
theorem Kept.trans {G : Nat → Prop} {a b c : World} (h : Kept G a b) (k : Kept G b c) : Kept G a c := ⟨Nat.le_trans h.1 k.1, fun q hq => (k.2 q hq).trans (h.2 q hq)⟩
theorem Kept.refl (G : Nat → Prop) (a : World) : Kept G a a := ⟨Nat.le_refl _, fun _ _ => rfl⟩

section
variable {w : World} {G : Nat → Prop}
theorem Jo.set (h : Jo W G r J w) (i : Int) {n : Int} (hn : W64 n) : Calls Try.prog 28 #[.pointer (some ⟨r, 0, none⟩), .int .i64 i, .int .u64 n] w fun e w' => e = .returned (.int .i64 (J.set i n).2) ∧ (Jo W G r (J.set i n).1 w' ∧ Kept G w w') := by
  obtain ⟨M, F, h⟩ := h
  exact (set_any h.jn i hn).mono fun e w' ⟨h1, h2⟩ => ⟨h1, h.act h2⟩
theorem Jo.add (h : Jo W G r J w) (i : Int) {n : Int} (hn : W64 n) : Calls Try.prog 15 #[.pointer (some ⟨r, 0, none⟩), .int .i64 i, .int .u64 n] w fun e w' => e = .returned (.int .i64 (J.chg i n addR).2) ∧ (Jo W G r (J.chg i n addR).1 w' ∧ Kept G w w') := by
  obtain ⟨M, F, h⟩ := h
  exact (jadd_any h.jn i hn).mono fun e w' ⟨h1, h2⟩ => ⟨h1, h.act h2⟩
theorem Jo.sub (h : Jo W G r J w) (i : Int) {n : Int} (hn : W64 n) : Calls Try.prog 29 #[.pointer (some ⟨r, 0, none⟩), .int .i64 i, .int .u64 n] w fun e w' => e = .returned (.int .i64 (J.chg i n subR).2) ∧ (Jo W G r (J.chg i n subR).1 w' ∧ Kept G w w') := by
  obtain ⟨M, F, h⟩ := h
  exact (jsub_any h.jn i hn).mono fun e w' ⟨h1, h2⟩ => ⟨h1, h.act h2⟩
theorem Jo.move (h : Jo W G r J w) (i k : Int) {n : Int} (hn : W64 n) : Calls Try.prog 23 #[.pointer (some ⟨r, 0, none⟩), .int .i64 i, .int .i64 k, .int .u64 n] w fun e w' => e = .returned (.int .i64 (J.move i k n).2) ∧ (Jo W G r (J.move i k n).1 w' ∧ Kept G w w') := by
  obtain ⟨M, F, h⟩ := h
  exact (move_any h.jn i k hn).mono fun e w' ⟨h1, h2⟩ => ⟨h1, h.act h2⟩
theorem Jo.begin (h : Jo W G r J w) : Calls Try.prog 13 #[.pointer (some ⟨r, 0, none⟩)] w fun e w' => e = .returned (.tuple #[.int .i64 J.begin.2.1, .int .i64 J.begin.2.2]) ∧ (Jo W G r J.begin.1 w' ∧ Kept G w w') := by
  obtain ⟨M, F, h⟩ := h
  exact (begin_any h.jn).mono fun e w' ⟨h1, h2⟩ => ⟨h1, h.act h2⟩
theorem Jo.keep (h : Jo W G r J w) : Calls Try.prog 51 #[.pointer (some ⟨r, 0, none⟩)] w fun e w' => e = .returned (.int .i64 J.keep.2) ∧ (Jo W G r J.keep.1 w' ∧ Kept G w w') := by
  obtain ⟨M, F, h⟩ := h
  exact (keep_any h.jn).mono fun e w' ⟨h1, h2⟩ => ⟨h1, h.act h2⟩
theorem Jo.undo (h : Jo W G r J w) : Calls Try.prog 34 #[.pointer (some ⟨r, 0, none⟩)] w fun e w' => e = .returned (.int .i64 J.undo.2) ∧ (Jo W G r J.undo.1 w' ∧ Kept G w w') := by
  obtain ⟨M, F, h⟩ := h
  exact (undo_any h.jn).mono fun e w' ⟨h1, h2⟩ => ⟨h1, h.act h2⟩
theorem Jo.back (h : Jo W G r J w) (d : Int) : Calls Try.prog 18 #[.pointer (some ⟨r, 0, none⟩), .int .i64 d] w fun e w' => e = .returned (.int .i64 (J.back d).2) ∧ (Jo W G r (J.back d).1 w' ∧ Kept G w w') := by
  obtain ⟨M, F, h⟩ := h
  exact (back_all h.jn d).mono fun e w' ⟨h1, h2⟩ => ⟨h1, h.act h2⟩
theorem Jo.does (h : Jo W G r J w) (kind i k : Int) {n : Int} (hn : W64 n) : Calls Try.prog 31 #[.pointer (some ⟨r, 0, none⟩), .agg #[.int .i64 kind, .int .i64 i, .int .i64 k, .int .u64 n]] w fun e w' => e = .returned (.int .i64 (J.does kind i k n).2) ∧ (Jo W G r (J.does kind i k n).1 w' ∧ Kept G w w') := by
  obtain ⟨M, F, h⟩ := h
  exact (does_any h.jn kind i k hn).mono fun e w' ⟨h1, h2⟩ => ⟨h1, h.act h2⟩
theorem Jo.get (h : Jo W G r J w) (i : Int) : Calls Try.prog 27 #[.pointer (some ⟨r, 0, none⟩), .int .i64 i] w fun e w' => e = .returned (.tuple #[.int .u64 (J.get i).1, .int .i64 (J.get i).2]) ∧ Below w.heap.size w w' := by
  obtain ⟨M, F, h⟩ := h; exact get_any h.jn i
theorem Jo.depth (h : Jo W G r J w) : Calls Try.prog 24 #[.pointer (some ⟨r, 0, none⟩)] w fun e w' => e = .returned (.int .i64 J.L.length) ∧ w = w' := by
  obtain ⟨M, F, h⟩ := h; exact depth_any h.jn
theorem Jo.cells (h : Jo W G r J w) : Calls Try.prog 26 #[.pointer (some ⟨r, 0, none⟩)] w fun e w' => ∃ ao cap, e = .returned (.slice ao J.C.length cap) ∧ OwnW w' w.heap.size ao cap J.C ∧ Below w.heap.size w w' := by
  obtain ⟨M, F, h⟩ := h; exact cells_any h.jn
theorem Jo.touched (h : Jo W G r J w) : Calls Try.prog 32 #[.pointer (some ⟨r, 0, none⟩)] w fun e w' => ∃ ao cap, e = .returned (.slice ao J.touched.length cap) ∧ OwnI w' w.heap.size ao cap J.touched ∧ Below w.heap.size w w' := by
  obtain ⟨M, F, h⟩ := h; exact touched_any h.jn
end
theorem Jo.new (n : Nat) (w : World) (h0 : 1 ≤ n) (h1 : n ≤ 4096) : Calls Try.prog 10 #[.int .i64 n] w fun e w' => ∃ r, e = .returned (.tuple #[.pointer (some ⟨r, 0, none⟩), .int .i64 0]) ∧ Jo w (fun k => k < w.heap.size) r (JS.new n) w' := by
  refine (new_near n w h0 h1).mono ?_
  rintro e w' ⟨r, M, F, rfl, hj, hf, hb⟩
  exact ⟨r, rfl, M, F, hj, hf, hb, fun k hk => ⟨Nat.lt_of_lt_of_le hk hb.size, fun hF => by have := hf k hF; omega⟩⟩
end
end Go.Proofs.Ytkpfnonacebmkaa
