/- Fk, Ke1, Fl, Ke2, Fm, Ke3, Ke4, Kep: texts of this claim, merged. -/
import Derived.WalkKit
import Derived.WalkSpells
import Derived.WalkLawsBesides
import Derived.Lib.Hide
import Derived.Test.YtjiffflhedekfaaProg
import Derived.Test.YtjiffflhedekfaaBm0
import Derived.Test.YtjiffflhedekfaaNea
import Derived.Test.YtjiffflhedekfaaKpl
import Derived.Test.YtjiffflhedekfaaRdM
import Derived.Deep.RegionHeld3
import Derived.Test.YtjiffflhedekfaaAsk
import Derived.Test.YtjiffflhedekfaaBm3
import Derived.Test.YtjiffflhedekfaaOp2
import Derived.Deep.LoopGhost
import Derived.Test.YtjiffflhedekfaaKn3
import Derived.Test.YtjiffflhedekfaaSom
section
/- A frame of 83 slots: what of it is known at a cut. -/
namespace Go.Proofs.Ytjiffflhedekfaa
open Go.RowKit
set_option maxRecDepth 100000
structure Fk (A : Array Value) (la ok pb was i : Value) : Prop where
  size : A.size = 83
  h1 : A[1]? = some la
  h5 : A[5]? = some ok
  h6 : A[6]? = some pb
  h7 : A[7]? = some was
  h9 : A[9]? = some i
theorem Fk.lit (u : Nat → Value) : ((List.range 83).map u).toArray = List.toArray (u 0 :: u 1 :: u 2 :: u 3 :: u 4 :: u 5 :: u 6 :: u 7 :: u 8 :: u 9 :: u 10 :: u 11 :: u 12 :: u 13 :: u 14 :: u 15 :: u 16 :: u 17 :: u 18 :: u 19 :: u 20 :: u 21 :: u 22 :: u 23 :: u 24 :: u 25 :: u 26 :: u 27 :: u 28 :: u 29 :: u 30 :: u 31 :: u 32 :: u 33 :: u 34 :: u 35 :: u 36 :: u 37 :: u 38 :: u 39 :: u 40 :: u 41 :: u 42 :: u 43 :: u 44 :: u 45 :: u 46 :: u 47 :: u 48 :: u 49 :: u 50 :: u 51 :: u 52 :: u 53 :: u 54 :: u 55 :: u 56 :: u 57 :: u 58 :: u 59 :: u 60 :: u 61 :: u 62 :: u 63 :: u 64 :: u 65 :: u 66 :: u 67 :: u 68 :: u 69 :: u 70 :: u 71 :: u 72 :: u 73 :: u 74 :: u 75 :: u 76 :: u 77 :: u 78 :: u 79 :: u 80 :: u 81 :: u 82 :: []) := by kernel_rfl
theorem Fk.any (A : Array Value) (h : A.size = 83) : ∃ u : Nat → Value, A = ((List.range 83).map u).toArray := by
  refine ⟨fun i => A.getD i undef, ?_⟩
  apply Array.ext
  · simp [h]
  · intro i h1 h2
    simp [h1]
theorem Fk.open {A : Array Value} {la ok pb was i : Value} (h : Fk A la ok pb was i) : ∃ u : Nat → Value, A = List.toArray (u 0 :: la :: u 2 :: u 3 :: u 4 :: ok :: pb :: was :: u 8 :: i :: u 10 :: u 11 :: u 12 :: u 13 :: u 14 :: u 15 :: u 16 :: u 17 :: u 18 :: u 19 :: u 20 :: u 21 :: u 22 :: u 23 :: u 24 :: u 25 :: u 26 :: u 27 :: u 28 :: u 29 :: u 30 :: u 31 :: u 32 :: u 33 :: u 34 :: u 35 :: u 36 :: u 37 :: u 38 :: u 39 :: u 40 :: u 41 :: u 42 :: u 43 :: u 44 :: u 45 :: u 46 :: u 47 :: u 48 :: u 49 :: u 50 :: u 51 :: u 52 :: u 53 :: u 54 :: u 55 :: u 56 :: u 57 :: u 58 :: u 59 :: u 60 :: u 61 :: u 62 :: u 63 :: u 64 :: u 65 :: u 66 :: u 67 :: u 68 :: u 69 :: u 70 :: u 71 :: u 72 :: u 73 :: u 74 :: u 75 :: u 76 :: u 77 :: u 78 :: u 79 :: u 80 :: u 81 :: u 82 :: []) := by
  obtain ⟨u, hu⟩ := Fk.any A h.size
  refine ⟨u, ?_⟩
  have g : ∀ i, i < 83 → A[i]? = some (u i) := fun i hi => by rw [hu]; simp [hi]
  have e1 := Option.some.inj ((g 1 (by omega)).symm.trans h.h1)
  have e5 := Option.some.inj ((g 5 (by omega)).symm.trans h.h5)
  have e6 := Option.some.inj ((g 6 (by omega)).symm.trans h.h6)
  have e7 := Option.some.inj ((g 7 (by omega)).symm.trans h.h7)
  have e9 := Option.some.inj ((g 9 (by omega)).symm.trans h.h9)
  subst e1 e5 e6 e7 e9
  rw [hu]
  exact Fk.lit u
end Go.Proofs.Ytjiffflhedekfaa
end
section
/- BankKeeps: the statement that makes a near move. -/
namespace Go.Proofs.Ytjiffflhedekfaa
open Go.RowKit

/-- The bank that a loop of moves goes on with. -/
structure Kp (w W : World) (b : Nat) (B : Bk) (ao : Option Addr) (c : Nat) (was : Int) : Prop where
  below : Below w.heap.size w W
  v : Var w W b B ao c
  wf : B.Wf
  chk : B.chk = 0
  tot : B.tot = was
  le : B.L.length ≤ 8
  lo : w.heap.size ≤ b
theorem Kp.step {w W W' : World} {b : Nat} {B : Bk} {ao : Option Addr} {c : Nat} {was : Int} (h : Kp w W b B ao c was) (hb : Below W.heap.size W W') : Kp w W' b B ao c was :=
  ⟨h.below.trans (hb.mono h.below.size), h.v.step hb, h.wf, h.chk, h.tot, h.le, h.lo⟩
noncomputable def kb (p : List Bool) : Code := nav (Try.f6.body.getD .skip) ([true, true, true, true, true, true, false, true, true, true] ++ p)

/-- What holds behind it: another variable holds the answer. -/
structure KpX (w W : World) (b bx : Nat) (B X : Bk) (ao ax : Option Addr) (c cx : Nat) (was er : Int) : Prop where
  kp : Kp w W b B ao c was
  x : Var w W bx X ax cx
  is : ∃ k f t n, (0 ≤ k ∧ k ≤ 4) ∧ W64 n ∧ doesR B k f t n = (X, er)
  ne : bx ≠ b
  lo : w.heap.size ≤ bx

set_option maxRecDepth 100000 in
set_option maxHeartbeats 4000000 in
theorem kpMove {w W : World} {b : Nat} {B : Bk} {ao : Option Addr} {c : Nat} {was : Int} {n lc k lb lo : Nat} {xk xf xt xn : Int} {A : Array Value} {Q : Exit → Act → World → Prop} {rest : Code}
    (hK : Kp w W b B ao c was) (hk : k < n) (hn : n ≤ 40) (hlb : lb < w.heap.size) (hm : W64 xn) (i1 : I64 xk) (i2 : I64 xf) (i3 : I64 xt)
    (c0 : w.cell? ⟨lb, lo + k * 4, none⟩ = some (.int .i64 xk)) (c1 : w.cell? ⟨lb, lo + k * 4 + 1, none⟩ = some (.int .i64 xf)) (c2 : w.cell? ⟨lb, lo + k * 4 + 2, none⟩ = some (.int .i64 xt)) (c3 : w.cell? ⟨lb, lo + k * 4 + 3, none⟩ = some (.int .u64 xn))
    (hF : Fk A (.slice (some ⟨lb, lo, none⟩) n lc) (.bool true) (.pointer (some ⟨b, 0, none⟩)) (.int .u64 was) (.int .i64 k))
    (hC : ∀ (A' : Array Value) (W' : World) (bx : Nat) (X : Bk) (ax : Option Addr) (cx : Nat) (er : Int), Fk A' (.slice (some ⟨lb, lo, none⟩) n lc) (.bool true) (.pointer (some ⟨b, 0, none⟩)) (.int .u64 was) (.int .i64 k) →
      A'[10]? = some (.pointer (some ⟨bx, 0, none⟩)) → A'[11]? = some (.int .i64 er) → KpX w W' b bx B X ao ax c cx was er → Code.wp Try.prog rest Q ⟨A', []⟩ W') :
    Code.wp Try.prog (.seq (kb [true, false, true, false]) rest) Q ⟨A, []⟩ W := by
  have hle := hK.le
  have HN := Lib.hid (fun W => near_any ao B c xk xf xt xn W (by omega) i1 i2 i3 hm)
  have HK := Lib.hid hK
  have HD : Hid (∀ (kk f t nn : Int) (X : Bk) (er : Int) (W' : World), Below W.heap.size W W' → W64 nn → doesR B kk f t nn = (X, er) →
      Calls Try.prog 23 #[.agg #[.slice ao B.L.length c, .int .u64 B.p0, .int .u64 B.p1, .int .u64 B.p2, .int .u64 B.p3], .agg #[.int .i64 kk, .int .i64 f, .int .i64 t, .int .u64 nn]] W' fun e w' => ∃ ax cx, e = .returned (.tuple #[.agg #[.slice ax X.L.length cx, .int .u64 X.p0, .int .u64 X.p1, .int .u64 X.p2, .int .u64 X.p3], .int .i64 er]) ∧ OwnW w' W'.heap.size ax cx X.L ∧ Below W'.heap.size W' w') :=
    Lib.hid (fun kk f t nn X er W' h hm hX => by have := does_any ao B c kk f t nn W' (hK.step h).v.own.rd hK.wf (by omega) hm; rw [hX] at this; exact this)
  have HS := Lib.hid (fun W' (h : Below W.heap.size W W') => (⟨(five (hK.step h).v.hb).1, (five (hK.step h).v.hb).2.1, (five (hK.step h).v.hb).2.2.1, (five (hK.step h).v.hb).2.2.2.1, (five (hK.step h).v.hb).2.2.2.2.1,
      ((hK.step h).below.cell (p := ⟨lb, lo + k * 4, none⟩) hlb).trans c0, ((hK.step h).below.cell (p := ⟨lb, lo + k * 4 + 1, none⟩) hlb).trans c1, ((hK.step h).below.cell (p := ⟨lb, lo + k * 4 + 2, none⟩) hlb).trans c2, ((hK.step h).below.cell (p := ⟨lb, lo + k * 4 + 3, none⟩) hlb).trans c3⟩ :
          W'.cell? ⟨b, 0, none⟩ = some (.slice ao B.L.length c) ∧ W'.cell? ⟨b, 1, none⟩ = some (.int .u64 B.p0) ∧ W'.cell? ⟨b, 2, none⟩ = some (.int .u64 B.p1) ∧ W'.cell? ⟨b, 3, none⟩ = some (.int .u64 B.p2) ∧ W'.cell? ⟨b, 4, none⟩ = some (.int .u64 B.p3) ∧ W'.cell? ⟨lb, lo + k * 4, none⟩ = some (.int .i64 xk) ∧ W'.cell? ⟨lb, lo + k * 4 + 1, none⟩ = some (.int .i64 xf) ∧ W'.cell? ⟨lb, lo + k * 4 + 2, none⟩ = some (.int .i64 xt) ∧ W'.cell? ⟨lb, lo + k * 4 + 3, none⟩ = some (.int .u64 xn)))
  have HC := Lib.hid hC
  obtain ⟨v, rfl⟩ := hF.open
  have hwz : w.heap.size ≤ W.heap.size := hK.below.size
  have hbz : b < W.heap.size := lt_of_block hK.v.hb
  clear hC hF hK c0 c1 c2 c3 hm i1 i2 i3 hlb
  obtain ⟨a0, a1, a2, a3, a4, h0, h1, h2, h3⟩ := HS.out _ (Below.refl _ _)
  conv => arg 2; arg 1; whnf
  refine wp_seq_k (fun K hK0 => ?_)
  go_region_held3 (fun W' => W'.cell? ⟨b, 0, none⟩ = some (.slice ao B.L.length c) ∧ W'.cell? ⟨b, 1, none⟩ = some (.int .u64 B.p0) ∧ W'.cell? ⟨b, 2, none⟩ = some (.int .u64 B.p1) ∧ W'.cell? ⟨b, 3, none⟩ = some (.int .u64 B.p2) ∧ W'.cell? ⟨b, 4, none⟩ = some (.int .u64 B.p3) ∧ W'.cell? ⟨lb, lo + k * 4, none⟩ = some (.int .i64 xk) ∧ W'.cell? ⟨lb, lo + k * 4 + 1, none⟩ = some (.int .i64 xf) ∧ W'.cell? ⟨lb, lo + k * 4 + 2, none⟩ = some (.int .i64 xt) ∧ W'.cell? ⟨lb, lo + k * 4 + 3, none⟩ = some (.int .u64 xn))
    ((refine HS.out _ ?_; first | exact HB5.out | exact HB4.out | with_reducible exact (Below.refl _ _).drew | with_reducible exact ((Below.refl _ _).alloc (Nat.le_refl _) _).drew | with_reducible exact HB5.out.alloc HB5.out.size _ | with_reducible exact HB4.out.alloc HB4.out.size _ | with_reducible exact ((Below.refl _ _).drew.alloc (Nat.le_refl _) _) | with_reducible exact ((((HB5.out.setCell hsz4 _).setCell hsz4 _).setCell hsz4 _).setCell hsz4 _).setCell hsz4 _ | with_reducible exact ((((HB5.out.setCell (Nat.le_refl _) _).setCell (Nat.le_refl _) _).setCell (Nat.le_refl _) _).setCell (Nat.le_refl _) _).setCell (Nat.le_refl _) _))
    (first | (go_at_call 39; refine (HN.out _).mono ?_; rintro e w4 ⟨zk, zf, zt, zn, rfl, hzk, hzn, hzf, hzt, hb⟩; (try (have hz4 := Lib.hid ((hb.block W.heap.size (by simp)).trans (heap_at W (.cells #[.slice none 0 0, .int .u64 0, .int .u64 0, .int .u64 0, .int .u64 0] 26) rfl)); have hl4 : W.heap.size < w4.heap.size := lt_of_block hz4.out; obtain ⟨z0, z1, z2, z3, z4, q0, q1, q2, q3, q4⟩ := five hz4.out)); have hb4 : Below W.heap.size W w4 := (by first | exact (Below.refl W.heap.size W).drew.trans hb | exact ((Below.refl W.heap.size W).alloc (Nat.le_refl _) _).drew.trans (hb.mono (by simp))); have HB4 := Lib.hid hb4; obtain ⟨X, er, hX⟩ : ∃ X er, doesR B zk zf zt zn = (X, er) := ⟨_, _, rfl⟩; have HZ := Lib.hid (And.intro hzk (And.intro hzn hX)); clear hX; have hsz4 := hb4.size; obtain ⟨a0, a1, a2, a3, a4, h0, h1, h2, h3⟩ := HS.out _ hb4; clear hb4 hzk hzn hzf hzt; (try clear hb)) | (go_at_call 23; refine (HD.out zk zf zt zn X er _ (by first | exact HB4.out | exact HB4.out.alloc HB4.out.size _) HZ.out.2.1 HZ.out.2.2).mono ?_; rintro e w5 ⟨ax, cx, rfl, hown, hb⟩; (try (have hz5 := Lib.hid ((hb.block W.heap.size (by omega)).trans hz4.out); have hl5 : W.heap.size < w5.heap.size := lt_of_block hz5.out; obtain ⟨z0, z1, z2, z3, z4, q0, q1, q2, q3, q4⟩ := five hz5.out)); (try (have hz5 := Lib.hid ((hb.block w4.heap.size (by simp)).trans (heap_at w4 (.cells #[.slice none 0 0, .int .u64 0, .int .u64 0, .int .u64 0, .int .u64 0] 26) rfl)); have hl5 : w4.heap.size < w5.heap.size := lt_of_block hz5.out; obtain ⟨z0, z1, z2, z3, z4, q0, q1, q2, q3, q4⟩ := five hz5.out)); have hb5 : Below W.heap.size W w5 := (by first | exact HB4.out.trans (hb.mono HB4.out.size) | exact (HB4.out.alloc HB4.out.size _).trans (hb.mono (by simp; omega))); have HB5 := Lib.hid hb5; have hsz5 := hb5.size; have HO5 := Lib.hid (hown.mono (base' := w.heap.size) (by first | omega | (simp; omega))); obtain ⟨a0, a1, a2, a3, a4, h0, h1, h2, h3⟩ := HS.out _ hb5; clear hb5 hown; (try clear hb)))
  all_goals show K _ _
  all_goals refine hK0 _ _ ?_
  · refine HC.out _ _ w5.heap.size X ax cx er ⟨by simp, rfl, rfl, rfl, rfl, rfl⟩ rfl rfl ⟨HK.out.step (HB5.out.alloc HB5.out.size _), ⟨heap_at w5 _ rfl, HO5.out.alloc _⟩, ⟨_, _, _, _, HZ.out.1, HZ.out.2.1, HZ.out.2.2⟩, by have := HB5.out.size; omega, by have := HB5.out.size; omega⟩
  · refine HC.out _ _ w4.heap.size X ax cx er ⟨by simp, rfl, rfl, rfl, rfl, rfl⟩ rfl rfl ⟨HK.out.step (below_set5 HB5.out hsz4 _ _ _ _ _), ⟨heap_set5 hz5.out _ _ _ _ _, HO5.out.set5 (fun p hp hq => by obtain ⟨cs, m, h⟩ := HO5.out.typed p hp; rw [hq, hz5.out] at h; cases h) _ _ _ _ _⟩, ⟨_, _, _, _, HZ.out.1, HZ.out.2.1, HZ.out.2.2⟩, by omega, by omega⟩
  · refine HC.out _ _ W.heap.size X ax cx er ⟨by simp, rfl, rfl, rfl, rfl, rfl⟩ rfl rfl ⟨HK.out.step (below_set5 HB5.out (Nat.le_refl _) _ _ _ _ _), ⟨heap_set5 hz5.out _ _ _ _ _, HO5.out.set5 (fun p hp hq => by obtain ⟨cs, m, h⟩ := HO5.out.typed p hp; rw [hq, hz5.out] at h; cases h) _ _ _ _ _⟩, ⟨_, _, _, _, HZ.out.1, HZ.out.2.1, HZ.out.2.2⟩, by omega, by omega⟩
end Go.Proofs.Ytjiffflhedekfaa
end
section
/- A frame of 83 slots: what of it is known at a cut. -/
namespace Go.Proofs.Ytjiffflhedekfaa
open Go.RowKit
set_option maxRecDepth 100000
structure Fl (A : Array Value) (la ok pb was i pc er : Value) : Prop where
  size : A.size = 83
  h1 : A[1]? = some la
  h5 : A[5]? = some ok
  h6 : A[6]? = some pb
  h7 : A[7]? = some was
  h9 : A[9]? = some i
  h10 : A[10]? = some pc
  h11 : A[11]? = some er
theorem Fl.lit (u : Nat → Value) : ((List.range 83).map u).toArray = List.toArray (u 0 :: u 1 :: u 2 :: u 3 :: u 4 :: u 5 :: u 6 :: u 7 :: u 8 :: u 9 :: u 10 :: u 11 :: u 12 :: u 13 :: u 14 :: u 15 :: u 16 :: u 17 :: u 18 :: u 19 :: u 20 :: u 21 :: u 22 :: u 23 :: u 24 :: u 25 :: u 26 :: u 27 :: u 28 :: u 29 :: u 30 :: u 31 :: u 32 :: u 33 :: u 34 :: u 35 :: u 36 :: u 37 :: u 38 :: u 39 :: u 40 :: u 41 :: u 42 :: u 43 :: u 44 :: u 45 :: u 46 :: u 47 :: u 48 :: u 49 :: u 50 :: u 51 :: u 52 :: u 53 :: u 54 :: u 55 :: u 56 :: u 57 :: u 58 :: u 59 :: u 60 :: u 61 :: u 62 :: u 63 :: u 64 :: u 65 :: u 66 :: u 67 :: u 68 :: u 69 :: u 70 :: u 71 :: u 72 :: u 73 :: u 74 :: u 75 :: u 76 :: u 77 :: u 78 :: u 79 :: u 80 :: u 81 :: u 82 :: []) := by kernel_rfl
theorem Fl.any (A : Array Value) (h : A.size = 83) : ∃ u : Nat → Value, A = ((List.range 83).map u).toArray := by
  refine ⟨fun i => A.getD i undef, ?_⟩
  apply Array.ext
  · simp [h]
  · intro i h1 h2
    simp [h1]
theorem Fl.open {A : Array Value} {la ok pb was i pc er : Value} (h : Fl A la ok pb was i pc er) : ∃ u : Nat → Value, A = List.toArray (u 0 :: la :: u 2 :: u 3 :: u 4 :: ok :: pb :: was :: u 8 :: i :: pc :: er :: u 12 :: u 13 :: u 14 :: u 15 :: u 16 :: u 17 :: u 18 :: u 19 :: u 20 :: u 21 :: u 22 :: u 23 :: u 24 :: u 25 :: u 26 :: u 27 :: u 28 :: u 29 :: u 30 :: u 31 :: u 32 :: u 33 :: u 34 :: u 35 :: u 36 :: u 37 :: u 38 :: u 39 :: u 40 :: u 41 :: u 42 :: u 43 :: u 44 :: u 45 :: u 46 :: u 47 :: u 48 :: u 49 :: u 50 :: u 51 :: u 52 :: u 53 :: u 54 :: u 55 :: u 56 :: u 57 :: u 58 :: u 59 :: u 60 :: u 61 :: u 62 :: u 63 :: u 64 :: u 65 :: u 66 :: u 67 :: u 68 :: u 69 :: u 70 :: u 71 :: u 72 :: u 73 :: u 74 :: u 75 :: u 76 :: u 77 :: u 78 :: u 79 :: u 80 :: u 81 :: u 82 :: []) := by
  obtain ⟨u, hu⟩ := Fl.any A h.size
  refine ⟨u, ?_⟩
  have g : ∀ i, i < 83 → A[i]? = some (u i) := fun i hi => by rw [hu]; simp [hi]
  have e1 := Option.some.inj ((g 1 (by omega)).symm.trans h.h1)
  have e5 := Option.some.inj ((g 5 (by omega)).symm.trans h.h5)
  have e6 := Option.some.inj ((g 6 (by omega)).symm.trans h.h6)
  have e7 := Option.some.inj ((g 7 (by omega)).symm.trans h.h7)
  have e9 := Option.some.inj ((g 9 (by omega)).symm.trans h.h9)
  have e10 := Option.some.inj ((g 10 (by omega)).symm.trans h.h10)
  have e11 := Option.some.inj ((g 11 (by omega)).symm.trans h.h11)
  subst e1 e5 e6 e7 e9 e10 e11
  rw [hu]
  exact Fl.lit u
end Go.Proofs.Ytjiffflhedekfaa
end
section
/- BankKeeps: what follows a near move. -/
namespace Go.Proofs.Ytjiffflhedekfaa
open Go.RowKit

theorem Fl.fk {A : Array Value} {la ok pb was i pc er : Value} (h : Fl A la ok pb was i pc er) : Fk A la ok pb was i := ⟨h.size, h.h1, h.h5, h.h6, h.h7, h.h9⟩

set_option maxRecDepth 100000 in
set_option maxHeartbeats 1600000 in
theorem kpBack {w W : World} {b bx : Nat} {B X : Bk} {ao ax : Option Addr} {c cx : Nat} {was er : Int} {A : Array Value} {Q : Exit → Act → World → Prop} {la i : Value}
    (hK : KpX w W b bx B X ao ax c cx was er) (he : er ≠ 0)
    (hF : Fl A la (.bool true) (.pointer (some ⟨b, 0, none⟩)) (.int .u64 was) i (.pointer (some ⟨bx, 0, none⟩)) (.int .i64 er))
    (hC : ∀ (A' : Array Value) (W' : World), Fk A' la (.bool true) (.pointer (some ⟨b, 0, none⟩)) (.int .u64 was) i → Kp w W' b B ao c was → Q (.exit 1) ⟨A', []⟩ W') :
    Code.wp Try.prog (kb [true, false, true, true]) Q ⟨A, []⟩ W := by
  have hX0 : X = B0 := by
    obtain ⟨k, f, t, n, hk, hn, h⟩ := hK.is
    have := doesR_err (B := B) (k := k) (f := f) (t := t) (n := n) (by rw [h]; exact he)
    rw [h] at this; exact this
  subst hX0
  have HS := Lib.hid (fun W' (h : Rd W' ax B0.L) => sameBank_any ax none B0 B0 cx 0 W' h (fun k hk => absurd hk (by simp [B0])) (by simp [B0]) (by simp [B0]))
  have HR := Lib.hid hK.x.own.rd
  have HK := Lib.hid hK.kp
  have HC := Lib.hid hC
  obtain ⟨a0, a1, a2, a3, a4, _⟩ := five hK.x.hb
  obtain ⟨v, rfl⟩ := hF.open
  clear hK hF hC
  have hd : decide (er = 0) = false := by simp [he]
  conv => arg 2; whnf
  go_wp2_with fail
  refine (HS.out _ HR.out).mono ?_
  rintro e w5 ⟨rfl, hb⟩
  have HB := Lib.hid hb
  clear hb
  go_wp2_with fail
  exact HC.out _ _ ⟨by simp, rfl, rfl, rfl, rfl, rfl⟩ (HK.out.step HB.out)

end Go.Proofs.Ytjiffflhedekfaa
end
section
/- A frame of 83 slots: what of it is known at a cut. -/
namespace Go.Proofs.Ytjiffflhedekfaa
open Go.RowKit
set_option maxRecDepth 100000
structure Fm (A : Array Value) (la ok pb was i pc now g : Value) : Prop where
  size : A.size = 83
  h1 : A[1]? = some la
  h5 : A[5]? = some ok
  h6 : A[6]? = some pb
  h7 : A[7]? = some was
  h9 : A[9]? = some i
  h10 : A[10]? = some pc
  h12 : A[12]? = some now
  h13 : A[13]? = some g
theorem Fm.lit (u : Nat → Value) : ((List.range 83).map u).toArray = List.toArray (u 0 :: u 1 :: u 2 :: u 3 :: u 4 :: u 5 :: u 6 :: u 7 :: u 8 :: u 9 :: u 10 :: u 11 :: u 12 :: u 13 :: u 14 :: u 15 :: u 16 :: u 17 :: u 18 :: u 19 :: u 20 :: u 21 :: u 22 :: u 23 :: u 24 :: u 25 :: u 26 :: u 27 :: u 28 :: u 29 :: u 30 :: u 31 :: u 32 :: u 33 :: u 34 :: u 35 :: u 36 :: u 37 :: u 38 :: u 39 :: u 40 :: u 41 :: u 42 :: u 43 :: u 44 :: u 45 :: u 46 :: u 47 :: u 48 :: u 49 :: u 50 :: u 51 :: u 52 :: u 53 :: u 54 :: u 55 :: u 56 :: u 57 :: u 58 :: u 59 :: u 60 :: u 61 :: u 62 :: u 63 :: u 64 :: u 65 :: u 66 :: u 67 :: u 68 :: u 69 :: u 70 :: u 71 :: u 72 :: u 73 :: u 74 :: u 75 :: u 76 :: u 77 :: u 78 :: u 79 :: u 80 :: u 81 :: u 82 :: []) := by kernel_rfl
theorem Fm.any (A : Array Value) (h : A.size = 83) : ∃ u : Nat → Value, A = ((List.range 83).map u).toArray := by
  refine ⟨fun i => A.getD i undef, ?_⟩
  apply Array.ext
  · simp [h]
  · intro i h1 h2
    simp [h1]
theorem Fm.open {A : Array Value} {la ok pb was i pc now g : Value} (h : Fm A la ok pb was i pc now g) : ∃ u : Nat → Value, A = List.toArray (u 0 :: la :: u 2 :: u 3 :: u 4 :: ok :: pb :: was :: u 8 :: i :: pc :: u 11 :: now :: g :: u 14 :: u 15 :: u 16 :: u 17 :: u 18 :: u 19 :: u 20 :: u 21 :: u 22 :: u 23 :: u 24 :: u 25 :: u 26 :: u 27 :: u 28 :: u 29 :: u 30 :: u 31 :: u 32 :: u 33 :: u 34 :: u 35 :: u 36 :: u 37 :: u 38 :: u 39 :: u 40 :: u 41 :: u 42 :: u 43 :: u 44 :: u 45 :: u 46 :: u 47 :: u 48 :: u 49 :: u 50 :: u 51 :: u 52 :: u 53 :: u 54 :: u 55 :: u 56 :: u 57 :: u 58 :: u 59 :: u 60 :: u 61 :: u 62 :: u 63 :: u 64 :: u 65 :: u 66 :: u 67 :: u 68 :: u 69 :: u 70 :: u 71 :: u 72 :: u 73 :: u 74 :: u 75 :: u 76 :: u 77 :: u 78 :: u 79 :: u 80 :: u 81 :: u 82 :: []) := by
  obtain ⟨u, hu⟩ := Fm.any A h.size
  refine ⟨u, ?_⟩
  have g : ∀ i, i < 83 → A[i]? = some (u i) := fun i hi => by rw [hu]; simp [hi]
  have e1 := Option.some.inj ((g 1 (by omega)).symm.trans h.h1)
  have e5 := Option.some.inj ((g 5 (by omega)).symm.trans h.h5)
  have e6 := Option.some.inj ((g 6 (by omega)).symm.trans h.h6)
  have e7 := Option.some.inj ((g 7 (by omega)).symm.trans h.h7)
  have e9 := Option.some.inj ((g 9 (by omega)).symm.trans h.h9)
  have e10 := Option.some.inj ((g 10 (by omega)).symm.trans h.h10)
  have e12 := Option.some.inj ((g 12 (by omega)).symm.trans h.h12)
  have e13 := Option.some.inj ((g 13 (by omega)).symm.trans h.h13)
  subst e1 e5 e6 e7 e9 e10 e12 e13
  rw [hu]
  exact Fm.lit u
end Go.Proofs.Ytjiffflhedekfaa
end
section
/- BankKeeps: what follows a near move that is done. -/
namespace Go.Proofs.Ytjiffflhedekfaa
open Go.RowKit

set_option maxRecDepth 100000 in
set_option maxHeartbeats 1600000 in
/-- The tests, and the store. -/
theorem kpTests {W : World} {b bx : Nat} {ao ax : Option Addr} {c cx m : Nat} {was p0 p1 p2 p3 q0 q1 q2 q3 : Int} {A : Array Value} {Q : Exit → Act → World → Prop} {la i : Value}
    (hb : W.heap[b]? = some (.cells #[.slice ao m c, .int .u64 p0, .int .u64 p1, .int .u64 p2, .int .u64 p3] 26 (0, 0)))
    (hx : W.heap[bx]? = some (.cells #[.slice ax m cx, .int .u64 q0, .int .u64 q1, .int .u64 q2, .int .u64 q3] 26 (0, 0)))
    (hp : p2 ≤ q2)
    (hF : Fm A la (.bool true) (.pointer (some ⟨b, 0, none⟩)) (.int .u64 was) i (.pointer (some ⟨bx, 0, none⟩)) (.int .u64 was) (.int .i64 0))
    (hC : ∀ (A' : Array Value), Fk A' la (.bool true) (.pointer (some ⟨b, 0, none⟩)) (.int .u64 was) i → Q .normal ⟨A', []⟩ (set5 W b (.slice ax m cx) (.int .u64 q0) (.int .u64 q1) (.int .u64 q2) (.int .u64 q3))) :
    Code.wp Try.prog (kb [true, false, true, true, true, true]) Q ⟨A, []⟩ W := by
  have HC := Lib.hid hC
  obtain ⟨a0, a1, a2, a3, a4, _⟩ := five hx
  obtain ⟨b0, b1, b2, b3, b4, _⟩ := five hb
  have hlb : b < W.heap.size := lt_of_block hb
  have hd : decide (q2 < p2) = false := by simp; omega
  obtain ⟨v, rfl⟩ := hF.open
  clear hF hC hb hx
  conv => arg 2; whnf
  go_wp2_with fail
  exact HC.out _ ⟨by simp, rfl, rfl, rfl, rfl, rfl⟩

set_option maxRecDepth 100000 in
set_option maxHeartbeats 1600000 in
/-- No error: the supply of the bank moved. -/
theorem kpSup {W : World} {b bx : Nat} {X : Bk} {ax : Option Addr} {cx : Nat} {was : Int} {A : Array Value} {Q : Exit → Act → World → Prop} {la i : Value} {rest : Code}
    (hx : W.heap[bx]? = some (.cells #[.slice ax X.L.length cx, .int .u64 X.p0, .int .u64 X.p1, .int .u64 X.p2, .int .u64 X.p3] 26 (0, 0)))
    (hS : Calls Try.prog 15 #[.agg #[.slice ax X.L.length cx, .int .u64 X.p0, .int .u64 X.p1, .int .u64 X.p2, .int .u64 X.p3]] W
      fun e w' => e = .returned (.tuple #[.int .u64 was, .int .i64 0]) ∧ Below W.heap.size W w')
    (hF : Fl A la (.bool true) (.pointer (some ⟨b, 0, none⟩)) (.int .u64 was) i (.pointer (some ⟨bx, 0, none⟩)) (.int .i64 0))
    (hC : ∀ (A' : Array Value) (W' : World), Fm A' la (.bool true) (.pointer (some ⟨b, 0, none⟩)) (.int .u64 was) i (.pointer (some ⟨bx, 0, none⟩)) (.int .u64 was) (.int .i64 0) → Below W.heap.size W W' → Code.wp Try.prog rest Q ⟨A', []⟩ W') :
    Code.wp Try.prog (.seq (kb [true, false, true, true, false]) (.seq (kb [true, false, true, true, true, false]) rest)) Q ⟨A, []⟩ W := by
  have HC := Lib.hid hC
  have HS := Lib.hid hS
  obtain ⟨a0, a1, a2, a3, a4, _⟩ := five hx
  obtain ⟨v, rfl⟩ := hF.open
  clear hF hC hx hS
  conv => arg 2; arg 1; whnf
  conv => arg 2; arg 2; arg 1; whnf
  go_wp2_with fail
  refine HS.out.mono ?_
  rintro e w5 ⟨rfl, hb⟩
  have HB := Lib.hid hb
  clear hb
  go_wp2_with fail
  exact HC.out _ _ ⟨by simp, rfl, rfl, rfl, rfl, rfl, rfl, rfl, rfl⟩ HB.out

set_option maxRecDepth 100000 in
theorem kb_on : kb [true, false, true, true] = .seq (kb [true, false, true, true, false]) (.seq (kb [true, false, true, true, true, false]) (kb [true, false, true, true, true, true])) := rfl

theorem kpOn {w W : World} {b bx : Nat} {B X : Bk} {ao ax : Option Addr} {c cx : Nat} {was : Int} {A : Array Value} {Q : Exit → Act → World → Prop} {la i : Value}
    (hK : KpX w W b bx B X ao ax c cx was 0)
    (hF : Fl A la (.bool true) (.pointer (some ⟨b, 0, none⟩)) (.int .u64 was) i (.pointer (some ⟨bx, 0, none⟩)) (.int .i64 0))
    (hC : ∀ (A' : Array Value) (W' : World), Fk A' la (.bool true) (.pointer (some ⟨b, 0, none⟩)) (.int .u64 was) i → Kp w W' b X ax cx was → Q .normal ⟨A', []⟩ W') :
    Code.wp Try.prog (kb [true, false, true, true]) Q ⟨A, []⟩ W := by
  have hP : X.Wf ∧ X.L.length = B.L.length ∧ X.tot = was ∧ X.chk = 0 ∧ B.p2 ≤ X.p2 := by
    obtain ⟨k, f, t, n, hk, hn, h⟩ := hK.is
    have h0 : (doesR B k f t n).2 = 0 := by rw [h]
    have h1 := doesR_ok hK.kp.wf hn hk h0
    have h2 := doesR_p2 hK.kp.wf hn hk h0
    have h3 := doesR_chk hK.kp.wf hn hk h0
    rw [h] at h1 h2 h3
    exact ⟨h1.1, h1.2.1, h1.2.2.trans hK.kp.tot, h3.trans hK.kp.chk, h2⟩
  obtain ⟨hXw, hXl, hXt, hXc, hXp⟩ := hP
  have hle := hK.kp.le
  have HS := supply_any ax X cx W hK.x.own.rd hXw (by omega)
  rw [if_pos hXc, hXc, hXt] at HS
  rw [kb_on]
  refine kpSup hK.x.hb HS hF ?_
  intro A' W' hF' hb
  have hx := (hK.x.step hb)
  have hk := (hK.kp.step hb)
  refine kpTests hk.v.hb (by have := hx.hb; rwa [hXl] at this) hXp hF' ?_
  intro A2 hF2
  refine hC _ _ hF2 ⟨below_set5 hk.below hk.lo _ _ _ _ _, ⟨?_, ?_⟩, hXw, hXc, hXt, by omega, hk.lo⟩
  · rw [hXl]; exact heap_set5 hk.v.hb _ _ _ _ _
  · exact hx.own.set5 (fun p hp hq => by obtain ⟨cs, m, h⟩ := hx.own.typed p hp; rw [hq, hk.v.hb] at h; cases h) _ _ _ _ _
end Go.Proofs.Ytjiffflhedekfaa
end
section
/- BankKeeps: the round, and the loop. -/
namespace Go.Proofs.Ytjiffflhedekfaa
open Go.RowKit

set_option maxRecDepth 100000 in
set_option maxHeartbeats 1600000 in
theorem kpHead_on {W : World} {la : Option Addr} {n lc k : Nat} {ok pb was : Value} {A : Array Value} {Q : Exit → Act → World → Prop} {rest : Code}
    (hk : k < n) (hn : n ≤ 40)
    (hF : Fk A (.slice la n lc) ok pb was (.int .i64 k))
    (hC : ∀ (A' : Array Value), Fk A' (.slice la n lc) ok pb was (.int .i64 k) → Code.wp Try.prog rest Q ⟨A', []⟩ W) :
    Code.wp Try.prog (.seq (kb [false]) rest) Q ⟨A, []⟩ W := by
  have HC := Lib.hid hC
  obtain ⟨v, rfl⟩ := hF.open
  clear hC hF
  conv => arg 2; arg 1; whnf
  go_wp2_with fail
  refine HC.out _ ?_
  exact ⟨rfl, rfl, rfl, rfl, rfl, rfl⟩
set_option maxRecDepth 100000 in
set_option maxHeartbeats 1600000 in
theorem kpHead_off {W : World} {la : Option Addr} {n lc : Nat} {ok pb was : Value} {A : Array Value} {Q : Exit → Act → World → Prop} {rest : Code}
    (hn : n ≤ 40)
    (hF : Fk A (.slice la n lc) ok pb was (.int .i64 n))
    (hC : ∀ (A' : Array Value), Fk A' (.slice la n lc) ok pb was (.int .i64 n) → Q (.exit 0) ⟨A', []⟩ W) :
    Code.wp Try.prog (.seq (kb [false]) rest) Q ⟨A, []⟩ W := by
  have HC := Lib.hid hC
  obtain ⟨v, rfl⟩ := hF.open
  clear hC hF
  conv => arg 2; arg 1; whnf
  go_wp2_with fail
  refine HC.out _ ?_
  exact ⟨rfl, rfl, rfl, rfl, rfl, rfl⟩
set_option maxRecDepth 100000 in
set_option maxHeartbeats 1600000 in
theorem kpTail {W : World} {la ok pb was : Value} {n k : Nat} {A : Array Value} {Q : Exit → Act → World → Prop}
    (hk : k < n) (hn : n ≤ 40)
    (hF : Fk A la ok pb was (.int .i64 k))
    (hC : ∀ (A' : Array Value), Fk A' la ok pb was (.int .i64 (k + 1 : Nat)) → Q .normal ⟨A', []⟩ W) :
    Code.wp Try.prog (kb [true, true]) Q ⟨A, []⟩ W := by
  have HC := Lib.hid hC
  obtain ⟨v, rfl⟩ := hF.open
  clear hC hF
  conv => arg 2; whnf
  go_wp2_with fail
  refine HC.out _ ?_
  exact ⟨rfl, rfl, rfl, rfl, rfl, rfl⟩

set_option maxRecDepth 100000 in
theorem kb_round : kb [] = .seq (kb [false]) (.seq (.block 1 (.seq (kb [true, false, true, false]) (kb [true, false, true, true]))) (kb [true, true])) := rfl

theorem kpRound {w W : World} {b : Nat} {B : Bk} {ao : Option Addr} {c : Nat} {was : Int} {n lc k : Nat} {la : Option Addr} {l : List Ac} {A : Array Value} {Q : Exit → Act → World → Prop}
    (hl : l.length = n) (hn : n ≤ 40) (hA : ActsAt w la l) (hI : AcsIn l) (hk : k ≤ n)
    (hK : Kp w W b B ao c was) (hF : Fk A (.slice la n lc) (.bool true) (.pointer (some ⟨b, 0, none⟩)) (.int .u64 was) (.int .i64 k))
    (hN : k < n → ∀ A' W' B' ao' c', Fk A' (.slice la n lc) (.bool true) (.pointer (some ⟨b, 0, none⟩)) (.int .u64 was) (.int .i64 (k + 1 : Nat)) → Kp w W' b B' ao' c' was → Q .normal ⟨A', []⟩ W')
    (hE : ∀ A', Fk A' (.slice la n lc) (.bool true) (.pointer (some ⟨b, 0, none⟩)) (.int .u64 was) (.int .i64 k) → Q (.exit 0) ⟨A', []⟩ W) :
    Code.wp Try.prog (kb []) Q ⟨A, []⟩ W := by
  rw [kb_round]
  rcases Nat.lt_or_ge k n with hlt | hge
  · refine kpHead_on hlt hn hF fun A1 hF => ?_
    refine wp_seq ?_
    refine wp_block ?_
    obtain ⟨lb, lo, rfl, hlb, hm, c0, c1, c2, c3⟩ := hA k _ (List.getElem?_eq_getElem (by omega))
    obtain ⟨i1, i2, i3⟩ := hI _ (List.getElem_mem (show k < l.length by omega))
    generalize l[k]'(by omega) = x at *
    obtain ⟨xk, xf, xt, xn⟩ := x
    dsimp only at *
    refine kpMove hK hlt hn hlb hm i1 i2 i3 c0 c1 c2 c3 hF ?_
    intro A2 W2 bx X ax cx er hF h10 h11 hX
    have hF2 : Fl A2 _ _ _ _ _ _ _ := ⟨hF.size, hF.h1, hF.h5, hF.h6, hF.h7, hF.h9, h10, h11⟩
    by_cases he : er = 0
    · subst he
      refine kpOn hX hF2 fun A3 W3 hF hK => ?_
      refine kpTail hlt hn hF fun A4 hF => ?_
      exact hN hlt _ _ _ _ _ hF hK
    · refine kpBack hX he hF2 fun A3 W3 hF hK => ?_
      refine kpTail hlt hn hF fun A4 hF => ?_
      exact hN hlt _ _ _ _ _ hF hK
  · obtain rfl : k = n := by omega
    exact kpHead_off hn hF fun A1 hF => hE _ hF

theorem kpLoop {w W : World} {b : Nat} {B : Bk} {ao : Option Addr} {c : Nat} {was : Int} {n lc : Nat} {la : Option Addr} {l : List Ac} {A : Array Value} {Q : Exit → Act → World → Prop}
    (hl : l.length = n) (hn : n ≤ 40) (hA : ActsAt w la l) (hI : AcsIn l)
    (hK : Kp w W b B ao c was) (hF : Fk A (.slice la n lc) (.bool true) (.pointer (some ⟨b, 0, none⟩)) (.int .u64 was) (.int .i64 0))
    (hE : ∀ A' W' i, Fk A' (.slice la n lc) (.bool true) (.pointer (some ⟨b, 0, none⟩)) (.int .u64 was) i → Below w.heap.size w W' → Q (.exit 0) ⟨A', []⟩ W') :
    Code.wp Try.prog (.loop (kb [])) Q ⟨A, []⟩ W := by
  refine wp_loop_ghost (fun m a W => a.defers = [] ∧ ∃ k B ao c, m = n - k ∧ k ≤ n ∧ Fk a.tmps (.slice la n lc) (.bool true) (.pointer (some ⟨b, 0, none⟩)) (.int .u64 was) (.int .i64 (k : Nat)) ∧ Kp w W b B ao c was) n ⟨rfl, 0, _, _, _, by omega, by omega, hF, hK⟩ ?_
  rintro m ⟨A1, d1⟩ W1 ⟨hd, k, B1, ao1, c1, hm, hk, hF1, hK1⟩
  simp only at hd hF1
  subst hd
  refine kpRound hl hn hA hI hk hK1 hF1 (fun hlt A2 W2 B2 ao2 c2 hF2 hK2 => ?_) (fun A2 hF2 => ?_)
  · exact ⟨n - (k + 1), by omega, rfl, k + 1, _, _, _, rfl, by omega, hF2, hK2⟩
  · exact hE _ _ _ hF2 hK1.below
end Go.Proofs.Ytjiffflhedekfaa
end
section
/- BankKeeps: the walk. -/
namespace Go.Proofs.Ytjiffflhedekfaa
open Go.RowKit

set_option maxRecDepth 100000 in
set_option maxHeartbeats 3200000 in
theorem bankKeeps_any (ao0 : Option Addr) (l0 : List Int) (c0 : Nat) (la : Option Addr) (l : List Ac) (lc n : Nat) (w : World) (hln : l.length = n) (hl0 : Rd w ao0 l0) (hw0 : Ws l0) (nl0 : l0.length ≤ 9223372036854775807) (hA : ActsAt w la l) (hI : AcsIn l) (nl : n ≤ 9223372036854775807) :
    Calls Try.prog 6 #[.slice ao0 l0.length c0, .slice la n lc] w fun e w' => e = .returned (.bool true) ∧ Below w.heap.size w w' := by
  have HL := Lib.hid hl0
  have HW := Lib.hid hw0
  have HAc := Lib.hid hA
  have HIn := Lib.hid hI
  have HLn := Lib.hid hln
  clear hl0 hw0 hA hI hln
  by_cases hfar : 40 < n
  · go_enter Try.func6, Try.ntmps6
    go_wp2_with fail
    refine (bankKnown_any w).mono ?_
    rintro e w1 ⟨rfl, hb⟩
    have HB := Lib.hid hb
    clear hb
    go_wp2_with fail
    go_ret
    exact ⟨rfl, HB.out⟩
  · have hn : n ≤ 40 := by omega
    clear hfar nl
    go_enter Try.func6, Try.ntmps6
    go_wp2_with fail
    refine (bankKnown_any w).mono ?_
    rintro e w1 ⟨rfl, hb⟩
    have HB := Lib.hid hb
    clear hb
    go_wp2_with fail
    refine (some_any ao0 l0 c0 w1 (HL.out.below HB.out) HW.out nl0).mono ?_
    rintro e w2 ⟨B, ao, c, rfl, hown, hb, hwf, hchk, hle⟩
    have HB2 := Lib.hid (HB.out.trans (hb.mono HB.out.size))
    have hK := Lib.hid (⟨HB2.out.alloc HB2.out.size _, ⟨heap_at w2 _ rfl, (hown.mono HB.out.size).alloc _⟩, hwf, hchk, rfl, hle, HB2.out.size⟩ : Kp w (w2.alloc (.cells #[.slice ao B.L.length c, .int .u64 B.p0, .int .u64 B.p1, .int .u64 B.p2, .int .u64 B.p3] 26)) w2.heap.size B ao c B.tot)
    have HC := Lib.hid hchk
    clear hown hb hwf hchk
    go_wp2_with fail
    refine (supply_any ao B c _ (by have := hK.out.v.own.rd; exact this) hK.out.wf (by omega)).mono ?_
    rintro e w3 ⟨rfl, hb⟩
    rw [if_pos HC.out, HC.out]
    have hK := Lib.hid (hK.out.step hb)
    obtain ⟨bb, hbb⟩ : ∃ bb, w2.heap.size = bb := ⟨_, rfl⟩
    rw [hbb] at hK ⊢
    clear hb hbb
    generalize B.tot = was at *
    go_wp2_with fail
    change Code.wp Try.prog (.loop (kb [])) _ _ _
    refine kpLoop HLn.out hn HAc.out HIn.out hK.out ⟨by simp, rfl, rfl, rfl, rfl, rfl⟩ ?_
    intro A' W' i hF hb
    obtain ⟨v, rfl⟩ := hF.open
    have HB := Lib.hid hb
    clear hb hF
    go_wp2_with fail
    go_ret
    exact ⟨rfl, HB.out⟩
end Go.Proofs.Ytjiffflhedekfaa
end
