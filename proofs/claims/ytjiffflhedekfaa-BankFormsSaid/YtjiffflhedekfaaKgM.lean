/- Fk, Ke1, Fg, Kg1, Fh, Kg2, Fi, Kt1, Fj, Kfo: texts of this claim, merged. -/
import Derived.WalkKit
import Derived.WalkSpells
import Derived.WalkLawsBesides
import Derived.Lib.Hide
import Derived.Test.YtjiffflhedekfaaProg
import Derived.Test.YtjiffflhedekfaaBm0
import Derived.Test.YtjiffflhedekfaaNea
import Derived.Test.YtjiffflhedekfaaKpl
import Derived.Test.YtjiffflhedekfaaRdM
import Derived.Deep.RegionHeld3
import Derived.Test.YtjiffflhedekfaaBm3
import Derived.Test.YtjiffflhedekfaaOp2
import Derived.Deep.LoopGhost
import Derived.Test.YtjiffflhedekfaaKn0
import Derived.Test.YtjiffflhedekfaaBty
import Derived.Test.YtjiffflhedekfaaFml
import Derived.Test.YtjiffflhedekfaaKn3
import Derived.Test.YtjiffflhedekfaaSom
section
/- A frame of 83 slots: what of it is known at a cut. -/
namespace Go.Proofs.Ytjiffflhedekfaa
open Go.RowKit
set_option maxRecDepth 100000
structure Fk (A : Array Value) (la ok pb was i : Value) : Prop where
  size : A.size = 83
  h1 : A[1]? = some la
  h5 : A[5]? = some ok
  h6 : A[6]? = some pb
  h7 : A[7]? = some was
  h9 : A[9]? = some i
theorem Fk.lit (u : Nat → Value) : ((List.range 83).map u).toArray = List.toArray (u 0 :: u 1 :: u 2 :: u 3 :: u 4 :: u 5 :: u 6 :: u 7 :: u 8 :: u 9 :: u 10 :: u 11 :: u 12 :: u 13 :: u 14 :: u 15 :: u 16 :: u 17 :: u 18 :: u 19 :: u 20 :: u 21 :: u 22 :: u 23 :: u 24 :: u 25 :: u 26 :: u 27 :: u 28 :: u 29 :: u 30 :: u 31 :: u 32 :: u 33 :: u 34 :: u 35 :: u 36 :: u 37 :: u 38 :: u 39 :: u 40 :: u 41 :: u 42 :: u 43 :: u 44 :: u 45 :: u 46 :: u 47 :: u 48 :: u 49 :: u 50 :: u 51 :: u 52 :: u 53 :: u 54 :: u 55 :: u 56 :: u 57 :: u 58 :: u 59 :: u 60 :: u 61 :: u 62 :: u 63 :: u 64 :: u 65 :: u 66 :: u 67 :: u 68 :: u 69 :: u 70 :: u 71 :: u 72 :: u 73 :: u 74 :: u 75 :: u 76 :: u 77 :: u 78 :: u 79 :: u 80 :: u 81 :: u 82 :: []) := by kernel_rfl
theorem Fk.any (A : Array Value) (h : A.size = 83) : ∃ u : Nat → Value, A = ((List.range 83).map u).toArray := by
  refine ⟨fun i => A.getD i undef, ?_⟩
  apply Array.ext
  · simp [h]
  · intro i h1 h2
    simp [h1]
theorem Fk.open {A : Array Value} {la ok pb was i : Value} (h : Fk A la ok pb was i) : ∃ u : Nat → Value, A = List.toArray (u 0 :: la :: u 2 :: u 3 :: u 4 :: ok :: pb :: was :: u 8 :: i :: u 10 :: u 11 :: u 12 :: u 13 :: u 14 :: u 15 :: u 16 :: u 17 :: u 18 :: u 19 :: u 20 :: u 21 :: u 22 :: u 23 :: u 24 :: u 25 :: u 26 :: u 27 :: u 28 :: u 29 :: u 30 :: u 31 :: u 32 :: u 33 :: u 34 :: u 35 :: u 36 :: u 37 :: u 38 :: u 39 :: u 40 :: u 41 :: u 42 :: u 43 :: u 44 :: u 45 :: u 46 :: u 47 :: u 48 :: u 49 :: u 50 :: u 51 :: u 52 :: u 53 :: u 54 :: u 55 :: u 56 :: u 57 :: u 58 :: u 59 :: u 60 :: u 61 :: u 62 :: u 63 :: u 64 :: u 65 :: u 66 :: u 67 :: u 68 :: u 69 :: u 70 :: u 71 :: u 72 :: u 73 :: u 74 :: u 75 :: u 76 :: u 77 :: u 78 :: u 79 :: u 80 :: u 81 :: u 82 :: []) := by
  obtain ⟨u, hu⟩ := Fk.any A h.size
  refine ⟨u, ?_⟩
  have g : ∀ i, i < 83 → A[i]? = some (u i) := fun i hi => by rw [hu]; simp [hi]
  have e1 := Option.some.inj ((g 1 (by omega)).symm.trans h.h1)
  have e5 := Option.some.inj ((g 5 (by omega)).symm.trans h.h5)
  have e6 := Option.some.inj ((g 6 (by omega)).symm.trans h.h6)
  have e7 := Option.some.inj ((g 7 (by omega)).symm.trans h.h7)
  have e9 := Option.some.inj ((g 9 (by omega)).symm.trans h.h9)
  subst e1 e5 e6 e7 e9
  rw [hu]
  exact Fk.lit u
end Go.Proofs.Ytjiffflhedekfaa
end
section
/- BankKeeps: the statement that makes a near move. -/
namespace Go.Proofs.Ytjiffflhedekfaa
open Go.RowKit

/-- The bank that a loop of moves goes on with. -/
structure Kp (w W : World) (b : Nat) (B : Bk) (ao : Option Addr) (c : Nat) (was : Int) : Prop where
  below : Below w.heap.size w W
  v : Var w W b B ao c
  wf : B.Wf
  chk : B.chk = 0
  tot : B.tot = was
  le : B.L.length ≤ 8
  lo : w.heap.size ≤ b
theorem Kp.step {w W W' : World} {b : Nat} {B : Bk} {ao : Option Addr} {c : Nat} {was : Int} (h : Kp w W b B ao c was) (hb : Below W.heap.size W W') : Kp w W' b B ao c was :=
  ⟨h.below.trans (hb.mono h.below.size), h.v.step hb, h.wf, h.chk, h.tot, h.le, h.lo⟩
noncomputable def kb (p : List Bool) : Code := nav (Try.f6.body.getD .skip) ([true, true, true, true, true, true, false, true, true, true] ++ p)

/-- What holds behind it: another variable holds the answer. -/
structure KpX (w W : World) (b bx : Nat) (B X : Bk) (ao ax : Option Addr) (c cx : Nat) (was er : Int) : Prop where
  kp : Kp w W b B ao c was
  x : Var w W bx X ax cx
  is : ∃ k f t n, (0 ≤ k ∧ k ≤ 4) ∧ W64 n ∧ doesR B k f t n = (X, er)
  ne : bx ≠ b
  lo : w.heap.size ≤ bx

set_option maxRecDepth 100000 in
set_option maxHeartbeats 4000000 in
theorem kpMove {w W : World} {b : Nat} {B : Bk} {ao : Option Addr} {c : Nat} {was : Int} {n lc k lb lo : Nat} {xk xf xt xn : Int} {A : Array Value} {Q : Exit → Act → World → Prop} {rest : Code}
    (hK : Kp w W b B ao c was) (hk : k < n) (hn : n ≤ 40) (hlb : lb < w.heap.size) (hm : W64 xn) (i1 : I64 xk) (i2 : I64 xf) (i3 : I64 xt)
    (c0 : w.cell? ⟨lb, lo + k * 4, none⟩ = some (.int .i64 xk)) (c1 : w.cell? ⟨lb, lo + k * 4 + 1, none⟩ = some (.int .i64 xf)) (c2 : w.cell? ⟨lb, lo + k * 4 + 2, none⟩ = some (.int .i64 xt)) (c3 : w.cell? ⟨lb, lo + k * 4 + 3, none⟩ = some (.int .u64 xn))
    (hF : Fk A (.slice (some ⟨lb, lo, none⟩) n lc) (.bool true) (.pointer (some ⟨b, 0, none⟩)) (.int .u64 was) (.int .i64 k))
    (hC : ∀ (A' : Array Value) (W' : World) (bx : Nat) (X : Bk) (ax : Option Addr) (cx : Nat) (er : Int), Fk A' (.slice (some ⟨lb, lo, none⟩) n lc) (.bool true) (.pointer (some ⟨b, 0, none⟩)) (.int .u64 was) (.int .i64 k) →
      A'[10]? = some (.pointer (some ⟨bx, 0, none⟩)) → A'[11]? = some (.int .i64 er) → KpX w W' b bx B X ao ax c cx was er → Code.wp Try.prog rest Q ⟨A', []⟩ W') :
    Code.wp Try.prog (.seq (kb [true, false, true, false]) rest) Q ⟨A, []⟩ W := by
  have hle := hK.le
  have HN := Lib.hid (fun W => near_any ao B c xk xf xt xn W (by omega) i1 i2 i3 hm)
  have HK := Lib.hid hK
  have HD : Hid (∀ (kk f t nn : Int) (X : Bk) (er : Int) (W' : World), Below W.heap.size W W' → W64 nn → doesR B kk f t nn = (X, er) →
      Calls Try.prog 23 #[.agg #[.slice ao B.L.length c, .int .u64 B.p0, .int .u64 B.p1, .int .u64 B.p2, .int .u64 B.p3], .agg #[.int .i64 kk, .int .i64 f, .int .i64 t, .int .u64 nn]] W' fun e w' => ∃ ax cx, e = .returned (.tuple #[.agg #[.slice ax X.L.length cx, .int .u64 X.p0, .int .u64 X.p1, .int .u64 X.p2, .int .u64 X.p3], .int .i64 er]) ∧ OwnW w' W'.heap.size ax cx X.L ∧ Below W'.heap.size W' w') :=
    Lib.hid (fun kk f t nn X er W' h hm hX => by have := does_any ao B c kk f t nn W' (hK.step h).v.own.rd hK.wf (by omega) hm; rw [hX] at this; exact this)
  have HS := Lib.hid (fun W' (h : Below W.heap.size W W') => (⟨(five (hK.step h).v.hb).1, (five (hK.step h).v.hb).2.1, (five (hK.step h).v.hb).2.2.1, (five (hK.step h).v.hb).2.2.2.1, (five (hK.step h).v.hb).2.2.2.2.1,
      ((hK.step h).below.cell (p := ⟨lb, lo + k * 4, none⟩) hlb).trans c0, ((hK.step h).below.cell (p := ⟨lb, lo + k * 4 + 1, none⟩) hlb).trans c1, ((hK.step h).below.cell (p := ⟨lb, lo + k * 4 + 2, none⟩) hlb).trans c2, ((hK.step h).below.cell (p := ⟨lb, lo + k * 4 + 3, none⟩) hlb).trans c3⟩ :
          W'.cell? ⟨b, 0, none⟩ = some (.slice ao B.L.length c) ∧ W'.cell? ⟨b, 1, none⟩ = some (.int .u64 B.p0) ∧ W'.cell? ⟨b, 2, none⟩ = some (.int .u64 B.p1) ∧ W'.cell? ⟨b, 3, none⟩ = some (.int .u64 B.p2) ∧ W'.cell? ⟨b, 4, none⟩ = some (.int .u64 B.p3) ∧ W'.cell? ⟨lb, lo + k * 4, none⟩ = some (.int .i64 xk) ∧ W'.cell? ⟨lb, lo + k * 4 + 1, none⟩ = some (.int .i64 xf) ∧ W'.cell? ⟨lb, lo + k * 4 + 2, none⟩ = some (.int .i64 xt) ∧ W'.cell? ⟨lb, lo + k * 4 + 3, none⟩ = some (.int .u64 xn)))
  have HC := Lib.hid hC
  obtain ⟨v, rfl⟩ := hF.open
  have hwz : w.heap.size ≤ W.heap.size := hK.below.size
  have hbz : b < W.heap.size := lt_of_block hK.v.hb
  clear hC hF hK c0 c1 c2 c3 hm i1 i2 i3 hlb
  obtain ⟨a0, a1, a2, a3, a4, h0, h1, h2, h3⟩ := HS.out _ (Below.refl _ _)
  conv => arg 2; arg 1; whnf
  refine wp_seq_k (fun K hK0 => ?_)
  go_region_held3 (fun W' => W'.cell? ⟨b, 0, none⟩ = some (.slice ao B.L.length c) ∧ W'.cell? ⟨b, 1, none⟩ = some (.int .u64 B.p0) ∧ W'.cell? ⟨b, 2, none⟩ = some (.int .u64 B.p1) ∧ W'.cell? ⟨b, 3, none⟩ = some (.int .u64 B.p2) ∧ W'.cell? ⟨b, 4, none⟩ = some (.int .u64 B.p3) ∧ W'.cell? ⟨lb, lo + k * 4, none⟩ = some (.int .i64 xk) ∧ W'.cell? ⟨lb, lo + k * 4 + 1, none⟩ = some (.int .i64 xf) ∧ W'.cell? ⟨lb, lo + k * 4 + 2, none⟩ = some (.int .i64 xt) ∧ W'.cell? ⟨lb, lo + k * 4 + 3, none⟩ = some (.int .u64 xn))
    ((refine HS.out _ ?_; first | exact HB5.out | exact HB4.out | with_reducible exact (Below.refl _ _).drew | with_reducible exact ((Below.refl _ _).alloc (Nat.le_refl _) _).drew | with_reducible exact HB5.out.alloc HB5.out.size _ | with_reducible exact HB4.out.alloc HB4.out.size _ | with_reducible exact ((Below.refl _ _).drew.alloc (Nat.le_refl _) _) | with_reducible exact ((((HB5.out.setCell hsz4 _).setCell hsz4 _).setCell hsz4 _).setCell hsz4 _).setCell hsz4 _ | with_reducible exact ((((HB5.out.setCell (Nat.le_refl _) _).setCell (Nat.le_refl _) _).setCell (Nat.le_refl _) _).setCell (Nat.le_refl _) _).setCell (Nat.le_refl _) _))
    (first | (go_at_call 39; refine (HN.out _).mono ?_; rintro e w4 ⟨zk, zf, zt, zn, rfl, hzk, hzn, hzf, hzt, hb⟩; (try (have hz4 := Lib.hid ((hb.block W.heap.size (by simp)).trans (heap_at W (.cells #[.slice none 0 0, .int .u64 0, .int .u64 0, .int .u64 0, .int .u64 0] 26) rfl)); have hl4 : W.heap.size < w4.heap.size := lt_of_block hz4.out; obtain ⟨z0, z1, z2, z3, z4, q0, q1, q2, q3, q4⟩ := five hz4.out)); have hb4 : Below W.heap.size W w4 := (by first | exact (Below.refl W.heap.size W).drew.trans hb | exact ((Below.refl W.heap.size W).alloc (Nat.le_refl _) _).drew.trans (hb.mono (by simp))); have HB4 := Lib.hid hb4; obtain ⟨X, er, hX⟩ : ∃ X er, doesR B zk zf zt zn = (X, er) := ⟨_, _, rfl⟩; have HZ := Lib.hid (And.intro hzk (And.intro hzn hX)); clear hX; have hsz4 := hb4.size; obtain ⟨a0, a1, a2, a3, a4, h0, h1, h2, h3⟩ := HS.out _ hb4; clear hb4 hzk hzn hzf hzt; (try clear hb)) | (go_at_call 23; refine (HD.out zk zf zt zn X er _ (by first | exact HB4.out | exact HB4.out.alloc HB4.out.size _) HZ.out.2.1 HZ.out.2.2).mono ?_; rintro e w5 ⟨ax, cx, rfl, hown, hb⟩; (try (have hz5 := Lib.hid ((hb.block W.heap.size (by omega)).trans hz4.out); have hl5 : W.heap.size < w5.heap.size := lt_of_block hz5.out; obtain ⟨z0, z1, z2, z3, z4, q0, q1, q2, q3, q4⟩ := five hz5.out)); (try (have hz5 := Lib.hid ((hb.block w4.heap.size (by simp)).trans (heap_at w4 (.cells #[.slice none 0 0, .int .u64 0, .int .u64 0, .int .u64 0, .int .u64 0] 26) rfl)); have hl5 : w4.heap.size < w5.heap.size := lt_of_block hz5.out; obtain ⟨z0, z1, z2, z3, z4, q0, q1, q2, q3, q4⟩ := five hz5.out)); have hb5 : Below W.heap.size W w5 := (by first | exact HB4.out.trans (hb.mono HB4.out.size) | exact (HB4.out.alloc HB4.out.size _).trans (hb.mono (by simp; omega))); have HB5 := Lib.hid hb5; have hsz5 := hb5.size; have HO5 := Lib.hid (hown.mono (base' := w.heap.size) (by first | omega | (simp; omega))); obtain ⟨a0, a1, a2, a3, a4, h0, h1, h2, h3⟩ := HS.out _ hb5; clear hb5 hown; (try clear hb)))
  all_goals show K _ _
  all_goals refine hK0 _ _ ?_
  · refine HC.out _ _ w5.heap.size X ax cx er ⟨by simp, rfl, rfl, rfl, rfl, rfl⟩ rfl rfl ⟨HK.out.step (HB5.out.alloc HB5.out.size _), ⟨heap_at w5 _ rfl, HO5.out.alloc _⟩, ⟨_, _, _, _, HZ.out.1, HZ.out.2.1, HZ.out.2.2⟩, by have := HB5.out.size; omega, by have := HB5.out.size; omega⟩
  · refine HC.out _ _ w4.heap.size X ax cx er ⟨by simp, rfl, rfl, rfl, rfl, rfl⟩ rfl rfl ⟨HK.out.step (below_set5 HB5.out hsz4 _ _ _ _ _), ⟨heap_set5 hz5.out _ _ _ _ _, HO5.out.set5 (fun p hp hq => by obtain ⟨cs, m, h⟩ := HO5.out.typed p hp; rw [hq, hz5.out] at h; cases h) _ _ _ _ _⟩, ⟨_, _, _, _, HZ.out.1, HZ.out.2.1, HZ.out.2.2⟩, by omega, by omega⟩
  · refine HC.out _ _ W.heap.size X ax cx er ⟨by simp, rfl, rfl, rfl, rfl, rfl⟩ rfl rfl ⟨HK.out.step (below_set5 HB5.out (Nat.le_refl _) _ _ _ _ _), ⟨heap_set5 hz5.out _ _ _ _ _, HO5.out.set5 (fun p hp hq => by obtain ⟨cs, m, h⟩ := HO5.out.typed p hp; rw [hq, hz5.out] at h; cases h) _ _ _ _ _⟩, ⟨_, _, _, _, HZ.out.1, HZ.out.2.1, HZ.out.2.2⟩, by omega, by omega⟩
end Go.Proofs.Ytjiffflhedekfaa
end
section
/- A frame of 104 slots: what of it is known at a cut. -/
namespace Go.Proofs.Ytjiffflhedekfaa
open Go.RowKit
set_option maxRecDepth 100000
structure Fg (A : Array Value) (la raw ok pb i : Value) : Prop where
  size : A.size = 104
  h1 : A[1]? = some la
  h2 : A[2]? = some raw
  h7 : A[7]? = some ok
  h8 : A[8]? = some pb
  h9 : A[9]? = some i
theorem Fg.lit (u : Nat → Value) : ((List.range 104).map u).toArray = List.toArray (u 0 :: u 1 :: u 2 :: u 3 :: u 4 :: u 5 :: u 6 :: u 7 :: u 8 :: u 9 :: u 10 :: u 11 :: u 12 :: u 13 :: u 14 :: u 15 :: u 16 :: u 17 :: u 18 :: u 19 :: u 20 :: u 21 :: u 22 :: u 23 :: u 24 :: u 25 :: u 26 :: u 27 :: u 28 :: u 29 :: u 30 :: u 31 :: u 32 :: u 33 :: u 34 :: u 35 :: u 36 :: u 37 :: u 38 :: u 39 :: u 40 :: u 41 :: u 42 :: u 43 :: u 44 :: u 45 :: u 46 :: u 47 :: u 48 :: u 49 :: u 50 :: u 51 :: u 52 :: u 53 :: u 54 :: u 55 :: u 56 :: u 57 :: u 58 :: u 59 :: u 60 :: u 61 :: u 62 :: u 63 :: u 64 :: u 65 :: u 66 :: u 67 :: u 68 :: u 69 :: u 70 :: u 71 :: u 72 :: u 73 :: u 74 :: u 75 :: u 76 :: u 77 :: u 78 :: u 79 :: u 80 :: u 81 :: u 82 :: u 83 :: u 84 :: u 85 :: u 86 :: u 87 :: u 88 :: u 89 :: u 90 :: u 91 :: u 92 :: u 93 :: u 94 :: u 95 :: u 96 :: u 97 :: u 98 :: u 99 :: u 100 :: u 101 :: u 102 :: u 103 :: []) := by kernel_rfl
theorem Fg.any (A : Array Value) (h : A.size = 104) : ∃ u : Nat → Value, A = ((List.range 104).map u).toArray := by
  refine ⟨fun i => A.getD i undef, ?_⟩
  apply Array.ext
  · simp [h]
  · intro i h1 h2
    simp [h1]
theorem Fg.open {A : Array Value} {la raw ok pb i : Value} (h : Fg A la raw ok pb i) : ∃ u : Nat → Value, A = List.toArray (u 0 :: la :: raw :: u 3 :: u 4 :: u 5 :: u 6 :: ok :: pb :: i :: u 10 :: u 11 :: u 12 :: u 13 :: u 14 :: u 15 :: u 16 :: u 17 :: u 18 :: u 19 :: u 20 :: u 21 :: u 22 :: u 23 :: u 24 :: u 25 :: u 26 :: u 27 :: u 28 :: u 29 :: u 30 :: u 31 :: u 32 :: u 33 :: u 34 :: u 35 :: u 36 :: u 37 :: u 38 :: u 39 :: u 40 :: u 41 :: u 42 :: u 43 :: u 44 :: u 45 :: u 46 :: u 47 :: u 48 :: u 49 :: u 50 :: u 51 :: u 52 :: u 53 :: u 54 :: u 55 :: u 56 :: u 57 :: u 58 :: u 59 :: u 60 :: u 61 :: u 62 :: u 63 :: u 64 :: u 65 :: u 66 :: u 67 :: u 68 :: u 69 :: u 70 :: u 71 :: u 72 :: u 73 :: u 74 :: u 75 :: u 76 :: u 77 :: u 78 :: u 79 :: u 80 :: u 81 :: u 82 :: u 83 :: u 84 :: u 85 :: u 86 :: u 87 :: u 88 :: u 89 :: u 90 :: u 91 :: u 92 :: u 93 :: u 94 :: u 95 :: u 96 :: u 97 :: u 98 :: u 99 :: u 100 :: u 101 :: u 102 :: u 103 :: []) := by
  obtain ⟨u, hu⟩ := Fg.any A h.size
  refine ⟨u, ?_⟩
  have g : ∀ i, i < 104 → A[i]? = some (u i) := fun i hi => by rw [hu]; simp [hi]
  have e1 := Option.some.inj ((g 1 (by omega)).symm.trans h.h1)
  have e2 := Option.some.inj ((g 2 (by omega)).symm.trans h.h2)
  have e7 := Option.some.inj ((g 7 (by omega)).symm.trans h.h7)
  have e8 := Option.some.inj ((g 8 (by omega)).symm.trans h.h8)
  have e9 := Option.some.inj ((g 9 (by omega)).symm.trans h.h9)
  subst e1 e2 e7 e8 e9
  rw [hu]
  exact Fg.lit u
end Go.Proofs.Ytjiffflhedekfaa
end
section
/- BankForms: the near move of a round. -/
namespace Go.Proofs.Ytjiffflhedekfaa
open Go.RowKit

noncomputable def kf (p : List Bool) : Code := nav (Try.f8.body.getD .skip) ([true, true, true, true, false, true, true, true] ++ p)

set_option maxRecDepth 100000 in
set_option maxHeartbeats 4000000 in
theorem kfMove {w W : World} {b : Nat} {B : Bk} {ao : Option Addr} {c : Nat} {was : Int} {n lc k lb lo : Nat} {xk xf xt xn : Int} {A : Array Value} {Q : Exit → Act → World → Prop} {rest : Code} {raw : Value}
    (hK : Kp w W b B ao c was) (hk : k < n) (hn : n ≤ 40) (hlb : lb < w.heap.size) (hm : W64 xn) (i1 : I64 xk) (i2 : I64 xf) (i3 : I64 xt)
    (c0 : w.cell? ⟨lb, lo + k * 4, none⟩ = some (.int .i64 xk)) (c1 : w.cell? ⟨lb, lo + k * 4 + 1, none⟩ = some (.int .i64 xf)) (c2 : w.cell? ⟨lb, lo + k * 4 + 2, none⟩ = some (.int .i64 xt)) (c3 : w.cell? ⟨lb, lo + k * 4 + 3, none⟩ = some (.int .u64 xn))
    (hF : Fg A (.slice (some ⟨lb, lo, none⟩) n lc) raw (.bool true) (.pointer (some ⟨b, 0, none⟩)) (.int .i64 k))
    (hC : ∀ (A' : Array Value) (W' : World) (bx : Nat) (X : Bk) (ax : Option Addr) (cx : Nat) (er : Int), Fg A' (.slice (some ⟨lb, lo, none⟩) n lc) raw (.bool true) (.pointer (some ⟨b, 0, none⟩)) (.int .i64 k) →
      A'[10]? = some (.pointer (some ⟨bx, 0, none⟩)) → A'[11]? = some (.int .i64 er) → KpX w W' b bx B X ao ax c cx was er → Code.wp Try.prog rest Q ⟨A', []⟩ W') :
    Code.wp Try.prog (.seq (kf [true, false, true, false]) rest) Q ⟨A, []⟩ W := by
  have hle := hK.le
  have HN := Lib.hid (fun W => near_any ao B c xk xf xt xn W (by omega) i1 i2 i3 hm)
  have HK := Lib.hid hK
  have HD : Hid (∀ (kk f t nn : Int) (X : Bk) (er : Int) (W' : World), Below W.heap.size W W' → W64 nn → doesR B kk f t nn = (X, er) →
      Calls Try.prog 23 #[.agg #[.slice ao B.L.length c, .int .u64 B.p0, .int .u64 B.p1, .int .u64 B.p2, .int .u64 B.p3], .agg #[.int .i64 kk, .int .i64 f, .int .i64 t, .int .u64 nn]] W' fun e w' => ∃ ax cx, e = .returned (.tuple #[.agg #[.slice ax X.L.length cx, .int .u64 X.p0, .int .u64 X.p1, .int .u64 X.p2, .int .u64 X.p3], .int .i64 er]) ∧ OwnW w' W'.heap.size ax cx X.L ∧ Below W'.heap.size W' w') :=
    Lib.hid (fun kk f t nn X er W' h hm hX => by have := does_any ao B c kk f t nn W' (hK.step h).v.own.rd hK.wf (by omega) hm; rw [hX] at this; exact this)
  have HS := Lib.hid (fun W' (h : Below W.heap.size W W') => (⟨(five (hK.step h).v.hb).1, (five (hK.step h).v.hb).2.1, (five (hK.step h).v.hb).2.2.1, (five (hK.step h).v.hb).2.2.2.1, (five (hK.step h).v.hb).2.2.2.2.1,
      ((hK.step h).below.cell (p := ⟨lb, lo + k * 4, none⟩) hlb).trans c0, ((hK.step h).below.cell (p := ⟨lb, lo + k * 4 + 1, none⟩) hlb).trans c1, ((hK.step h).below.cell (p := ⟨lb, lo + k * 4 + 2, none⟩) hlb).trans c2, ((hK.step h).below.cell (p := ⟨lb, lo + k * 4 + 3, none⟩) hlb).trans c3⟩ :
          W'.cell? ⟨b, 0, none⟩ = some (.slice ao B.L.length c) ∧ W'.cell? ⟨b, 1, none⟩ = some (.int .u64 B.p0) ∧ W'.cell? ⟨b, 2, none⟩ = some (.int .u64 B.p1) ∧ W'.cell? ⟨b, 3, none⟩ = some (.int .u64 B.p2) ∧ W'.cell? ⟨b, 4, none⟩ = some (.int .u64 B.p3) ∧ W'.cell? ⟨lb, lo + k * 4, none⟩ = some (.int .i64 xk) ∧ W'.cell? ⟨lb, lo + k * 4 + 1, none⟩ = some (.int .i64 xf) ∧ W'.cell? ⟨lb, lo + k * 4 + 2, none⟩ = some (.int .i64 xt) ∧ W'.cell? ⟨lb, lo + k * 4 + 3, none⟩ = some (.int .u64 xn)))
  have HC := Lib.hid hC
  obtain ⟨v, rfl⟩ := hF.open
  have hwz : w.heap.size ≤ W.heap.size := hK.below.size
  have hbz : b < W.heap.size := lt_of_block hK.v.hb
  clear hC hF hK c0 c1 c2 c3 hm i1 i2 i3 hlb
  obtain ⟨a0, a1, a2, a3, a4, h0, h1, h2, h3⟩ := HS.out _ (Below.refl _ _)
  conv => arg 2; arg 1; whnf
  refine wp_seq_k (fun K hK0 => ?_)
  go_region_held3 (fun W' => W'.cell? ⟨b, 0, none⟩ = some (.slice ao B.L.length c) ∧ W'.cell? ⟨b, 1, none⟩ = some (.int .u64 B.p0) ∧ W'.cell? ⟨b, 2, none⟩ = some (.int .u64 B.p1) ∧ W'.cell? ⟨b, 3, none⟩ = some (.int .u64 B.p2) ∧ W'.cell? ⟨b, 4, none⟩ = some (.int .u64 B.p3) ∧ W'.cell? ⟨lb, lo + k * 4, none⟩ = some (.int .i64 xk) ∧ W'.cell? ⟨lb, lo + k * 4 + 1, none⟩ = some (.int .i64 xf) ∧ W'.cell? ⟨lb, lo + k * 4 + 2, none⟩ = some (.int .i64 xt) ∧ W'.cell? ⟨lb, lo + k * 4 + 3, none⟩ = some (.int .u64 xn))
    ((refine HS.out _ ?_; first | exact HB5.out | exact HB4.out | with_reducible exact (Below.refl _ _).drew | with_reducible exact ((Below.refl _ _).alloc (Nat.le_refl _) _).drew | with_reducible exact HB5.out.alloc HB5.out.size _ | with_reducible exact HB4.out.alloc HB4.out.size _ | with_reducible exact ((Below.refl _ _).drew.alloc (Nat.le_refl _) _) | with_reducible exact ((((HB5.out.setCell hsz4 _).setCell hsz4 _).setCell hsz4 _).setCell hsz4 _).setCell hsz4 _ | with_reducible exact ((((HB5.out.setCell (Nat.le_refl _) _).setCell (Nat.le_refl _) _).setCell (Nat.le_refl _) _).setCell (Nat.le_refl _) _).setCell (Nat.le_refl _) _))
    (first | (go_at_call 39; refine (HN.out _).mono ?_; rintro e w4 ⟨zk, zf, zt, zn, rfl, hzk, hzn, hzf, hzt, hb⟩; (try (have hz4 := Lib.hid ((hb.block W.heap.size (by simp)).trans (heap_at W (.cells #[.slice none 0 0, .int .u64 0, .int .u64 0, .int .u64 0, .int .u64 0] 26) rfl)); have hl4 : W.heap.size < w4.heap.size := lt_of_block hz4.out; obtain ⟨z0, z1, z2, z3, z4, q0, q1, q2, q3, q4⟩ := five hz4.out)); have hb4 : Below W.heap.size W w4 := (by first | exact (Below.refl W.heap.size W).drew.trans hb | exact ((Below.refl W.heap.size W).alloc (Nat.le_refl _) _).drew.trans (hb.mono (by simp))); have HB4 := Lib.hid hb4; obtain ⟨X, er, hX⟩ : ∃ X er, doesR B zk zf zt zn = (X, er) := ⟨_, _, rfl⟩; have HZ := Lib.hid (And.intro hzk (And.intro hzn hX)); clear hX; have hsz4 := hb4.size; obtain ⟨a0, a1, a2, a3, a4, h0, h1, h2, h3⟩ := HS.out _ hb4; clear hb4 hzk hzn hzf hzt; (try clear hb)) | (go_at_call 23; refine (HD.out zk zf zt zn X er _ (by first | exact HB4.out | exact HB4.out.alloc HB4.out.size _) HZ.out.2.1 HZ.out.2.2).mono ?_; rintro e w5 ⟨ax, cx, rfl, hown, hb⟩; (try (have hz5 := Lib.hid ((hb.block W.heap.size (by omega)).trans hz4.out); have hl5 : W.heap.size < w5.heap.size := lt_of_block hz5.out; obtain ⟨z0, z1, z2, z3, z4, q0, q1, q2, q3, q4⟩ := five hz5.out)); (try (have hz5 := Lib.hid ((hb.block w4.heap.size (by simp)).trans (heap_at w4 (.cells #[.slice none 0 0, .int .u64 0, .int .u64 0, .int .u64 0, .int .u64 0] 26) rfl)); have hl5 : w4.heap.size < w5.heap.size := lt_of_block hz5.out; obtain ⟨z0, z1, z2, z3, z4, q0, q1, q2, q3, q4⟩ := five hz5.out)); have hb5 : Below W.heap.size W w5 := (by first | exact HB4.out.trans (hb.mono HB4.out.size) | exact (HB4.out.alloc HB4.out.size _).trans (hb.mono (by simp; omega))); have HB5 := Lib.hid hb5; have hsz5 := hb5.size; have HO5 := Lib.hid (hown.mono (base' := w.heap.size) (by first | omega | (simp; omega))); obtain ⟨a0, a1, a2, a3, a4, h0, h1, h2, h3⟩ := HS.out _ hb5; clear hb5 hown; (try clear hb)))
  all_goals show K _ _
  all_goals refine hK0 _ _ ?_
  · refine HC.out _ _ w5.heap.size X ax cx er ⟨by simp, rfl, rfl, rfl, rfl, rfl⟩ rfl rfl ⟨HK.out.step (HB5.out.alloc HB5.out.size _), ⟨heap_at w5 _ rfl, HO5.out.alloc _⟩, ⟨_, _, _, _, HZ.out.1, HZ.out.2.1, HZ.out.2.2⟩, by have := HB5.out.size; omega, by have := HB5.out.size; omega⟩
  · refine HC.out _ _ w4.heap.size X ax cx er ⟨by simp, rfl, rfl, rfl, rfl, rfl⟩ rfl rfl ⟨HK.out.step (below_set5 HB5.out hsz4 _ _ _ _ _), ⟨heap_set5 hz5.out _ _ _ _ _, HO5.out.set5 (fun p hp hq => by obtain ⟨cs, m, h⟩ := HO5.out.typed p hp; rw [hq, hz5.out] at h; cases h) _ _ _ _ _⟩, ⟨_, _, _, _, HZ.out.1, HZ.out.2.1, HZ.out.2.2⟩, by omega, by omega⟩
  · refine HC.out _ _ W.heap.size X ax cx er ⟨by simp, rfl, rfl, rfl, rfl, rfl⟩ rfl rfl ⟨HK.out.step (below_set5 HB5.out (Nat.le_refl _) _ _ _ _ _), ⟨heap_set5 hz5.out _ _ _ _ _, HO5.out.set5 (fun p hp hq => by obtain ⟨cs, m, h⟩ := HO5.out.typed p hp; rw [hq, hz5.out] at h; cases h) _ _ _ _ _⟩, ⟨_, _, _, _, HZ.out.1, HZ.out.2.1, HZ.out.2.2⟩, by omega, by omega⟩
end Go.Proofs.Ytjiffflhedekfaa
end
section
/- A frame of 104 slots: what of it is known at a cut. -/
namespace Go.Proofs.Ytjiffflhedekfaa
open Go.RowKit
set_option maxRecDepth 100000
structure Fh (A : Array Value) (la raw ok pb i pc er : Value) : Prop where
  size : A.size = 104
  h1 : A[1]? = some la
  h2 : A[2]? = some raw
  h7 : A[7]? = some ok
  h8 : A[8]? = some pb
  h9 : A[9]? = some i
  h10 : A[10]? = some pc
  h11 : A[11]? = some er
theorem Fh.lit (u : Nat → Value) : ((List.range 104).map u).toArray = List.toArray (u 0 :: u 1 :: u 2 :: u 3 :: u 4 :: u 5 :: u 6 :: u 7 :: u 8 :: u 9 :: u 10 :: u 11 :: u 12 :: u 13 :: u 14 :: u 15 :: u 16 :: u 17 :: u 18 :: u 19 :: u 20 :: u 21 :: u 22 :: u 23 :: u 24 :: u 25 :: u 26 :: u 27 :: u 28 :: u 29 :: u 30 :: u 31 :: u 32 :: u 33 :: u 34 :: u 35 :: u 36 :: u 37 :: u 38 :: u 39 :: u 40 :: u 41 :: u 42 :: u 43 :: u 44 :: u 45 :: u 46 :: u 47 :: u 48 :: u 49 :: u 50 :: u 51 :: u 52 :: u 53 :: u 54 :: u 55 :: u 56 :: u 57 :: u 58 :: u 59 :: u 60 :: u 61 :: u 62 :: u 63 :: u 64 :: u 65 :: u 66 :: u 67 :: u 68 :: u 69 :: u 70 :: u 71 :: u 72 :: u 73 :: u 74 :: u 75 :: u 76 :: u 77 :: u 78 :: u 79 :: u 80 :: u 81 :: u 82 :: u 83 :: u 84 :: u 85 :: u 86 :: u 87 :: u 88 :: u 89 :: u 90 :: u 91 :: u 92 :: u 93 :: u 94 :: u 95 :: u 96 :: u 97 :: u 98 :: u 99 :: u 100 :: u 101 :: u 102 :: u 103 :: []) := by kernel_rfl
theorem Fh.any (A : Array Value) (h : A.size = 104) : ∃ u : Nat → Value, A = ((List.range 104).map u).toArray := by
  refine ⟨fun i => A.getD i undef, ?_⟩
  apply Array.ext
  · simp [h]
  · intro i h1 h2
    simp [h1]
theorem Fh.open {A : Array Value} {la raw ok pb i pc er : Value} (h : Fh A la raw ok pb i pc er) : ∃ u : Nat → Value, A = List.toArray (u 0 :: la :: raw :: u 3 :: u 4 :: u 5 :: u 6 :: ok :: pb :: i :: pc :: er :: u 12 :: u 13 :: u 14 :: u 15 :: u 16 :: u 17 :: u 18 :: u 19 :: u 20 :: u 21 :: u 22 :: u 23 :: u 24 :: u 25 :: u 26 :: u 27 :: u 28 :: u 29 :: u 30 :: u 31 :: u 32 :: u 33 :: u 34 :: u 35 :: u 36 :: u 37 :: u 38 :: u 39 :: u 40 :: u 41 :: u 42 :: u 43 :: u 44 :: u 45 :: u 46 :: u 47 :: u 48 :: u 49 :: u 50 :: u 51 :: u 52 :: u 53 :: u 54 :: u 55 :: u 56 :: u 57 :: u 58 :: u 59 :: u 60 :: u 61 :: u 62 :: u 63 :: u 64 :: u 65 :: u 66 :: u 67 :: u 68 :: u 69 :: u 70 :: u 71 :: u 72 :: u 73 :: u 74 :: u 75 :: u 76 :: u 77 :: u 78 :: u 79 :: u 80 :: u 81 :: u 82 :: u 83 :: u 84 :: u 85 :: u 86 :: u 87 :: u 88 :: u 89 :: u 90 :: u 91 :: u 92 :: u 93 :: u 94 :: u 95 :: u 96 :: u 97 :: u 98 :: u 99 :: u 100 :: u 101 :: u 102 :: u 103 :: []) := by
  obtain ⟨u, hu⟩ := Fh.any A h.size
  refine ⟨u, ?_⟩
  have g : ∀ i, i < 104 → A[i]? = some (u i) := fun i hi => by rw [hu]; simp [hi]
  have e1 := Option.some.inj ((g 1 (by omega)).symm.trans h.h1)
  have e2 := Option.some.inj ((g 2 (by omega)).symm.trans h.h2)
  have e7 := Option.some.inj ((g 7 (by omega)).symm.trans h.h7)
  have e8 := Option.some.inj ((g 8 (by omega)).symm.trans h.h8)
  have e9 := Option.some.inj ((g 9 (by omega)).symm.trans h.h9)
  have e10 := Option.some.inj ((g 10 (by omega)).symm.trans h.h10)
  have e11 := Option.some.inj ((g 11 (by omega)).symm.trans h.h11)
  subst e1 e2 e7 e8 e9 e10 e11
  rw [hu]
  exact Fh.lit u
end Go.Proofs.Ytjiffflhedekfaa
end
section
/- BankForms: the round, and the loop. -/
namespace Go.Proofs.Ytjiffflhedekfaa
open Go.RowKit

set_option maxRecDepth 100000 in
set_option maxHeartbeats 1600000 in
theorem kfBack {w W : World} {b bx : Nat} {B X : Bk} {ao ax : Option Addr} {c cx : Nat} {was er : Int} {A : Array Value} {Q : Exit → Act → World → Prop} {la raw i : Value}
    (hK : KpX w W b bx B X ao ax c cx was er) (he : er ≠ 0)
    (hF : Fh A la raw (.bool true) (.pointer (some ⟨b, 0, none⟩)) i (.pointer (some ⟨bx, 0, none⟩)) (.int .i64 er))
    (hC : ∀ (A' : Array Value), Fg A' la raw (.bool true) (.pointer (some ⟨b, 0, none⟩)) i → Kp w W b B ao c was → Q .normal ⟨A', []⟩ W) :
    Code.wp Try.prog (kf [true, false, true, true]) Q ⟨A, []⟩ W := by
  have HK := Lib.hid hK.kp
  have HC := Lib.hid hC
  obtain ⟨v, rfl⟩ := hF.open
  clear hK hF hC
  have hd : decide (er = 0) = false := by simp [he]
  have hd2 : (er == 0) = false := by simp [he]
  conv => arg 2; whnf
  go_wp2_with fail
  exact HC.out _ ⟨by simp, rfl, rfl, rfl, rfl, rfl⟩ HK.out

set_option maxRecDepth 100000 in
set_option maxHeartbeats 1600000 in
theorem kfOn {w W : World} {b bx : Nat} {B X : Bk} {ao ax : Option Addr} {c cx : Nat} {was : Int} {A : Array Value} {Q : Exit → Act → World → Prop} {la raw i : Value}
    (hK : KpX w W b bx B X ao ax c cx was 0)
    (hF : Fh A la raw (.bool true) (.pointer (some ⟨b, 0, none⟩)) i (.pointer (some ⟨bx, 0, none⟩)) (.int .i64 0))
    (hC : ∀ (A' : Array Value) (W' : World), Fg A' la raw (.bool true) (.pointer (some ⟨b, 0, none⟩)) i → Kp w W' b X ax cx was → Q .normal ⟨A', []⟩ W') :
    Code.wp Try.prog (kf [true, false, true, true]) Q ⟨A, []⟩ W := by
  have hP : X.Wf ∧ X.L.length = B.L.length ∧ X.tot = was ∧ X.chk = 0 := by
    obtain ⟨k, f, t, n, hk, hn, h⟩ := hK.is
    have h0 : (doesR B k f t n).2 = 0 := by rw [h]
    have h1 := doesR_ok hK.kp.wf hn hk h0
    have h3 := doesR_chk hK.kp.wf hn hk h0
    rw [h] at h1 h3
    exact ⟨h1.1, h1.2.1, h1.2.2.trans hK.kp.tot, h3.trans hK.kp.chk⟩
  obtain ⟨hXw, hXl, hXt, hXc⟩ := hP
  have hle := hK.kp.le
  have hR : Kp w (set5 W b (.slice ax X.L.length cx) (.int .u64 X.p0) (.int .u64 X.p1) (.int .u64 X.p2) (.int .u64 X.p3)) b X ax cx was :=
    ⟨below_set5 hK.kp.below hK.kp.lo _ _ _ _ _, ⟨heap_set5 hK.kp.v.hb _ _ _ _ _, hK.x.own.set5 (fun p hp hq => by obtain ⟨cs, m, h⟩ := hK.x.own.typed p hp; rw [hq, hK.kp.v.hb] at h; cases h) _ _ _ _ _⟩, hXw, hXc, hXt, by omega, hK.kp.lo⟩
  have HR := Lib.hid hR
  have HC := Lib.hid hC
  obtain ⟨a0, a1, a2, a3, a4, _⟩ := five hK.x.hb
  obtain ⟨b0, b1, b2, b3, b4, _⟩ := five hK.kp.v.hb
  have hlb : b < W.heap.size := lt_of_block hK.kp.v.hb
  obtain ⟨v, rfl⟩ := hF.open
  clear hK hF hC hR hXw hXc hXt hXl hle
  conv => arg 2; whnf
  go_wp2_with fail
  exact HC.out _ _ ⟨by simp, rfl, rfl, rfl, rfl, rfl⟩ HR.out

set_option maxRecDepth 100000 in
set_option maxHeartbeats 1600000 in
theorem kfHead_on {W : World} {la : Option Addr} {n lc k : Nat} {raw ok pb : Value} {A : Array Value} {Q : Exit → Act → World → Prop} {rest : Code}
    (hk : k < n) (hn : n ≤ 20)
    (hF : Fg A (.slice la n lc) raw ok pb (.int .i64 k))
    (hC : ∀ (A' : Array Value), Fg A' (.slice la n lc) raw ok pb (.int .i64 k) → Code.wp Try.prog rest Q ⟨A', []⟩ W) :
    Code.wp Try.prog (.seq (kf [false]) rest) Q ⟨A, []⟩ W := by
  have HC := Lib.hid hC
  obtain ⟨v, rfl⟩ := hF.open
  clear hC hF
  conv => arg 2; arg 1; whnf
  go_wp2_with fail
  refine HC.out _ ?_
  exact ⟨rfl, rfl, rfl, rfl, rfl, rfl⟩
set_option maxRecDepth 100000 in
set_option maxHeartbeats 1600000 in
theorem kfHead_off {W : World} {la : Option Addr} {n lc : Nat} {raw ok pb : Value} {A : Array Value} {Q : Exit → Act → World → Prop} {rest : Code}
    (hn : n ≤ 20)
    (hF : Fg A (.slice la n lc) raw ok pb (.int .i64 n))
    (hC : ∀ (A' : Array Value), Fg A' (.slice la n lc) raw ok pb (.int .i64 n) → Q (.exit 0) ⟨A', []⟩ W) :
    Code.wp Try.prog (.seq (kf [false]) rest) Q ⟨A, []⟩ W := by
  have HC := Lib.hid hC
  obtain ⟨v, rfl⟩ := hF.open
  clear hC hF
  conv => arg 2; arg 1; whnf
  go_wp2_with fail
  refine HC.out _ ?_
  exact ⟨rfl, rfl, rfl, rfl, rfl, rfl⟩
set_option maxRecDepth 100000 in
set_option maxHeartbeats 1600000 in
theorem kfTail {W : World} {la raw ok pb : Value} {n k : Nat} {A : Array Value} {Q : Exit → Act → World → Prop}
    (hk : k < n) (hn : n ≤ 20)
    (hF : Fg A la raw ok pb (.int .i64 k))
    (hC : ∀ (A' : Array Value), Fg A' la raw ok pb (.int .i64 (k + 1 : Nat)) → Q .normal ⟨A', []⟩ W) :
    Code.wp Try.prog (kf [true, true]) Q ⟨A, []⟩ W := by
  have HC := Lib.hid hC
  obtain ⟨v, rfl⟩ := hF.open
  clear hC hF
  conv => arg 2; whnf
  go_wp2_with fail
  refine HC.out _ ?_
  exact ⟨rfl, rfl, rfl, rfl, rfl, rfl⟩

set_option maxRecDepth 100000 in
theorem kf_round : kf [] = .seq (kf [false]) (.seq (.block 1 (.seq (kf [true, false, true, false]) (kf [true, false, true, true]))) (kf [true, true])) := rfl

theorem kfRound {raw : Value} {w W : World} {b : Nat} {B : Bk} {ao : Option Addr} {c : Nat} {was : Int} {n lc k : Nat} {la : Option Addr} {l : List Ac} {A : Array Value} {Q : Exit → Act → World → Prop}
    (hl : l.length = n) (hn : n ≤ 20) (hA : ActsAt w la l) (hI : AcsIn l) (hk : k ≤ n)
    (hK : Kp w W b B ao c was) (hF : Fg A (.slice la n lc) raw (.bool true) (.pointer (some ⟨b, 0, none⟩)) (.int .i64 k))
    (hN : k < n → ∀ A' W' B' ao' c', Fg A' (.slice la n lc) raw (.bool true) (.pointer (some ⟨b, 0, none⟩)) (.int .i64 (k + 1 : Nat)) → Kp w W' b B' ao' c' was → Q .normal ⟨A', []⟩ W')
    (hE : ∀ A', Fg A' (.slice la n lc) raw (.bool true) (.pointer (some ⟨b, 0, none⟩)) (.int .i64 k) → Q (.exit 0) ⟨A', []⟩ W) :
    Code.wp Try.prog (kf []) Q ⟨A, []⟩ W := by
  rw [kf_round]
  rcases Nat.lt_or_ge k n with hlt | hge
  · refine kfHead_on hlt hn hF fun A1 hF => ?_
    refine wp_seq ?_
    refine wp_block ?_
    obtain ⟨lb, lo, rfl, hlb, hm, c0, c1, c2, c3⟩ := hA k _ (List.getElem?_eq_getElem (by omega))
    obtain ⟨i1, i2, i3⟩ := hI _ (List.getElem_mem (show k < l.length by omega))
    generalize l[k]'(by omega) = x at *
    obtain ⟨xk, xf, xt, xn⟩ := x
    dsimp only at *
    refine kfMove hK hlt (by omega) hlb hm i1 i2 i3 c0 c1 c2 c3 hF ?_
    intro A2 W2 bx X ax cx er hF h10 h11 hX
    have hF2 : Fh A2 _ _ _ _ _ _ _ := ⟨hF.size, hF.h1, hF.h2, hF.h7, hF.h8, hF.h9, h10, h11⟩
    by_cases he : er = 0
    · subst he
      refine kfOn hX hF2 fun A3 W3 hF hK => ?_
      refine kfTail hlt hn hF fun A4 hF => ?_
      exact hN hlt _ _ _ _ _ hF hK
    · refine kfBack hX he hF2 fun A3 hF hK => ?_
      refine kfTail hlt hn hF fun A4 hF => ?_
      exact hN hlt _ _ _ _ _ hF hK
  · obtain rfl : k = n := by omega
    exact kfHead_off hn hF fun A1 hF => hE _ hF

theorem kfLoop {raw : Value} {w W : World} {b : Nat} {B : Bk} {ao : Option Addr} {c : Nat} {was : Int} {n lc : Nat} {la : Option Addr} {l : List Ac} {A : Array Value} {Q : Exit → Act → World → Prop}
    (hl : l.length = n) (hn : n ≤ 20) (hA : ActsAt w la l) (hI : AcsIn l)
    (hK : Kp w W b B ao c was) (hF : Fg A (.slice la n lc) raw (.bool true) (.pointer (some ⟨b, 0, none⟩)) (.int .i64 0))
    (hE : ∀ A' W' i B' ao' c', Fg A' (.slice la n lc) raw (.bool true) (.pointer (some ⟨b, 0, none⟩)) i → Kp w W' b B' ao' c' was → Q (.exit 0) ⟨A', []⟩ W') :
    Code.wp Try.prog (.loop (kf [])) Q ⟨A, []⟩ W := by
  refine wp_loop_ghost (fun m a W => a.defers = [] ∧ ∃ k B ao c, m = n - k ∧ k ≤ n ∧ Fg a.tmps (.slice la n lc) raw (.bool true) (.pointer (some ⟨b, 0, none⟩)) (.int .i64 (k : Nat)) ∧ Kp w W b B ao c was) n ⟨rfl, 0, _, _, _, by omega, by omega, hF, hK⟩ ?_
  rintro m ⟨A1, d1⟩ W1 ⟨hd, k, B1, ao1, c1, hm, hk, hF1, hK1⟩
  simp only at hd hF1
  subst hd
  refine kfRound hl hn hA hI hk hK1 hF1 (fun hlt A2 W2 B2 ao2 c2 hF2 hK2 => ?_) (fun A2 hF2 => ?_)
  · exact ⟨n - (k + 1), by omega, rfl, k + 1, _, _, _, rfl, by omega, hF2, hK2⟩
  · exact hE _ _ _ _ _ _ hF2 hK1
end Go.Proofs.Ytjiffflhedekfaa
end
section
/- A frame of 104 slots: what of it is known at a cut. -/
namespace Go.Proofs.Ytjiffflhedekfaa
open Go.RowKit
set_option maxRecDepth 100000
structure Fi (A : Array Value) (raw rs ok pb x ex pq pf pd pg y hy : Value) : Prop where
  size : A.size = 104
  h2 : A[2]? = some raw
  h6 : A[6]? = some rs
  h7 : A[7]? = some ok
  h8 : A[8]? = some pb
  h12 : A[12]? = some x
  h13 : A[13]? = some ex
  h14 : A[14]? = some pq
  h15 : A[15]? = some pf
  h16 : A[16]? = some pd
  h17 : A[17]? = some pg
  h18 : A[18]? = some y
  h19 : A[19]? = some hy
theorem Fi.lit (u : Nat → Value) : ((List.range 104).map u).toArray = List.toArray (u 0 :: u 1 :: u 2 :: u 3 :: u 4 :: u 5 :: u 6 :: u 7 :: u 8 :: u 9 :: u 10 :: u 11 :: u 12 :: u 13 :: u 14 :: u 15 :: u 16 :: u 17 :: u 18 :: u 19 :: u 20 :: u 21 :: u 22 :: u 23 :: u 24 :: u 25 :: u 26 :: u 27 :: u 28 :: u 29 :: u 30 :: u 31 :: u 32 :: u 33 :: u 34 :: u 35 :: u 36 :: u 37 :: u 38 :: u 39 :: u 40 :: u 41 :: u 42 :: u 43 :: u 44 :: u 45 :: u 46 :: u 47 :: u 48 :: u 49 :: u 50 :: u 51 :: u 52 :: u 53 :: u 54 :: u 55 :: u 56 :: u 57 :: u 58 :: u 59 :: u 60 :: u 61 :: u 62 :: u 63 :: u 64 :: u 65 :: u 66 :: u 67 :: u 68 :: u 69 :: u 70 :: u 71 :: u 72 :: u 73 :: u 74 :: u 75 :: u 76 :: u 77 :: u 78 :: u 79 :: u 80 :: u 81 :: u 82 :: u 83 :: u 84 :: u 85 :: u 86 :: u 87 :: u 88 :: u 89 :: u 90 :: u 91 :: u 92 :: u 93 :: u 94 :: u 95 :: u 96 :: u 97 :: u 98 :: u 99 :: u 100 :: u 101 :: u 102 :: u 103 :: []) := by kernel_rfl
theorem Fi.any (A : Array Value) (h : A.size = 104) : ∃ u : Nat → Value, A = ((List.range 104).map u).toArray := by
  refine ⟨fun i => A.getD i undef, ?_⟩
  apply Array.ext
  · simp [h]
  · intro i h1 h2
    simp [h1]
theorem Fi.open {A : Array Value} {raw rs ok pb x ex pq pf pd pg y hy : Value} (h : Fi A raw rs ok pb x ex pq pf pd pg y hy) : ∃ u : Nat → Value, A = List.toArray (u 0 :: u 1 :: raw :: u 3 :: u 4 :: u 5 :: rs :: ok :: pb :: u 9 :: u 10 :: u 11 :: x :: ex :: pq :: pf :: pd :: pg :: y :: hy :: u 20 :: u 21 :: u 22 :: u 23 :: u 24 :: u 25 :: u 26 :: u 27 :: u 28 :: u 29 :: u 30 :: u 31 :: u 32 :: u 33 :: u 34 :: u 35 :: u 36 :: u 37 :: u 38 :: u 39 :: u 40 :: u 41 :: u 42 :: u 43 :: u 44 :: u 45 :: u 46 :: u 47 :: u 48 :: u 49 :: u 50 :: u 51 :: u 52 :: u 53 :: u 54 :: u 55 :: u 56 :: u 57 :: u 58 :: u 59 :: u 60 :: u 61 :: u 62 :: u 63 :: u 64 :: u 65 :: u 66 :: u 67 :: u 68 :: u 69 :: u 70 :: u 71 :: u 72 :: u 73 :: u 74 :: u 75 :: u 76 :: u 77 :: u 78 :: u 79 :: u 80 :: u 81 :: u 82 :: u 83 :: u 84 :: u 85 :: u 86 :: u 87 :: u 88 :: u 89 :: u 90 :: u 91 :: u 92 :: u 93 :: u 94 :: u 95 :: u 96 :: u 97 :: u 98 :: u 99 :: u 100 :: u 101 :: u 102 :: u 103 :: []) := by
  obtain ⟨u, hu⟩ := Fi.any A h.size
  refine ⟨u, ?_⟩
  have g : ∀ i, i < 104 → A[i]? = some (u i) := fun i hi => by rw [hu]; simp [hi]
  have e2 := Option.some.inj ((g 2 (by omega)).symm.trans h.h2)
  have e6 := Option.some.inj ((g 6 (by omega)).symm.trans h.h6)
  have e7 := Option.some.inj ((g 7 (by omega)).symm.trans h.h7)
  have e8 := Option.some.inj ((g 8 (by omega)).symm.trans h.h8)
  have e12 := Option.some.inj ((g 12 (by omega)).symm.trans h.h12)
  have e13 := Option.some.inj ((g 13 (by omega)).symm.trans h.h13)
  have e14 := Option.some.inj ((g 14 (by omega)).symm.trans h.h14)
  have e15 := Option.some.inj ((g 15 (by omega)).symm.trans h.h15)
  have e16 := Option.some.inj ((g 16 (by omega)).symm.trans h.h16)
  have e17 := Option.some.inj ((g 17 (by omega)).symm.trans h.h17)
  have e18 := Option.some.inj ((g 18 (by omega)).symm.trans h.h18)
  have e19 := Option.some.inj ((g 19 (by omega)).symm.trans h.h19)
  subst e2 e6 e7 e8 e12 e13 e14 e15 e16 e17 e18 e19
  rw [hu]
  exact Fi.lit u
end Go.Proofs.Ytjiffflhedekfaa
end
section
/- BankForms: behind the loop. -/
namespace Go.Proofs.Ytjiffflhedekfaa
open Go.RowKit
noncomputable def kt (p : List Bool) : Code := nav (Try.f8.body.getD .skip) ([true, true, true, true, true] ++ p)

set_option maxRecDepth 100000 in
set_option maxHeartbeats 1600000 in
theorem tR11 {w W : World} {b : Nat} {B : Bk} {ao : Option Addr} {c : Nat} {A : Array Value} {Q : Exit → Act → World → Prop} {rest : Code} {raw rs ok x ex pq pf pd pg y hy : Value}
    (hV : Var w W b B ao c) (hw : B.Wf) (hc : B.chk = 0) (hF : Fi A raw rs ok (.pointer (some ⟨b, 0, none⟩)) x ex pq pf pd pg y hy)
    (hC : ∀ (A' : Array Value) (W' : World) (g cap : Nat), Fi A' raw rs ok (.pointer (some ⟨b, 0, none⟩)) (.slice (some ⟨g, 0, none⟩) (bytesL B).length cap) (.int .i64 0) pq pf pd pg y hy → Below W.heap.size W W' → OwnY W' W.heap.size (some ⟨g, 0, none⟩) cap (bytesL B) → Code.wp Try.prog rest Q ⟨A', []⟩ W') :
    Code.wp Try.prog (.seq (kt [false]) rest) Q ⟨A, []⟩ W := by
  have HC := Lib.hid hC
  have HD := Lib.hid (bytes_yes ao B c W hV.own.rd hw hc)
  obtain ⟨a0, a1, a2, a3, a4, _⟩ := five hV.hb
  obtain ⟨v, rfl⟩ := hF.open
  clear hC hF hV hw hc
  conv => arg 2; arg 1; whnf
  go_wp2_with fail
  refine HD.out.mono ?_
  rintro e w5 ⟨g, cap, rfl, hown, hb⟩
  have HB5 := Lib.hid hb
  have HO5 := Lib.hid hown
  clear hb hown
  go_wp2_with fail
  exact HC.out _ _ g cap ⟨by simp, rfl, rfl, rfl, rfl, rfl, rfl, rfl, rfl, rfl, rfl, rfl, rfl⟩ HB5.out HO5.out

set_option maxRecDepth 100000 in
set_option maxHeartbeats 1600000 in
theorem tR12 {w W : World} {xo : Option Addr} {xc : Nat} {L : List Int} {R : Bk} {e1 e2 : Int} {A : Array Value} {Q : Exit → Act → World → Prop} {rest : Code} {raw rs ok pb ex pq pf pd pg y hy : Value}
    (hlo : w.heap.size ≤ W.heap.size) (hL : Rb W xo L) (bl : Bs L) (nl : L.length ≤ 140737488355328) (hR : readR L = (R, e1, e2)) (hF : Fi A raw rs ok pb (.slice xo L.length xc) ex pq pf pd pg y hy)
    (hC : ∀ (A' : Array Value) (W' : World) (p q : Nat) (la : Option Addr) (cap : Nat), Fi A' raw rs ok pb (.slice xo L.length xc) ex (.pointer (some ⟨p, 0, none⟩)) (.pointer (some ⟨q, 0, none⟩)) pd pg y hy → Below W.heap.size W W' → Var w W' p R la cap → W'.heap[q]? = some (.cells #[.int .i64 e1, .int .i64 e2] 49 (0, 0)) → Code.wp Try.prog rest Q ⟨A', []⟩ W') :
    Code.wp Try.prog (.seq (kt [true, false]) rest) Q ⟨A, []⟩ W := by
  have HD := read_any xo L xc W hL bl nl
  rw [hR] at HD
  simp only at HD
  have HD := Lib.hid HD
  have HC := Lib.hid hC
  obtain ⟨v, rfl⟩ := hF.open
  clear hC hF hL bl nl hR
  conv => arg 2; arg 1; whnf
  go_wp2_with fail
  refine HD.out.mono ?_
  rintro e w5 ⟨la, cap, rfl, hown, hb⟩
  have HB5 := Lib.hid hb
  have HO5 := Lib.hid (hown.mono hlo)
  clear hb hown
  go_wp2_with fail
  exact HC.out _ _ w5.heap.size (w5.heap.size + 1) la cap ⟨by simp, rfl, rfl, rfl, rfl, rfl, rfl, rfl, rfl, rfl, rfl, rfl, rfl⟩ ((HB5.out.alloc HB5.out.size _).alloc (by have := HB5.out.size; simp; omega) _) ⟨(heap_old _ _ (by simp)).trans (heap_at w5 _ rfl), (HO5.out.alloc _).alloc _⟩ (heap_at _ _ (by simp))

set_option maxRecDepth 100000 in
set_option maxHeartbeats 1600000 in
theorem tR13 {w W : World} {b q f : Nat} {B : Bk} {ao aq : Option Addr} {c cq : Nat} {A : Array Value} {Q : Exit → Act → World → Prop} {rest : Code} {raw rs ok x pd pg y hy : Value}
    (hV : Var w W b B ao c) (hX : Var w W q B aq cq) (hf : W.heap[f]? = some (.cells #[.int .i64 0, .int .i64 0] 49 (0, 0))) (hle : B.L.length ≤ 9223372036854775807)
    (hF : Fi A raw rs ok (.pointer (some ⟨b, 0, none⟩)) x (.int .i64 0) (.pointer (some ⟨q, 0, none⟩)) (.pointer (some ⟨f, 0, none⟩)) pd pg y hy)
    (hC : ∀ (A' : Array Value) (W' : World), Fi A' raw rs ok (.pointer (some ⟨b, 0, none⟩)) x (.int .i64 0) (.pointer (some ⟨q, 0, none⟩)) (.pointer (some ⟨f, 0, none⟩)) pd pg y hy → Below W.heap.size W W' → Code.wp Try.prog rest Q ⟨A', []⟩ W') :
    Code.wp Try.prog (.seq (kt [true, true, false]) rest) Q ⟨A, []⟩ W := by
  have HD := Lib.hid (sameBank_any ao aq B B c cq W hV.own.rd hX.own.rd hle hle)
  rw [show decide (B = B) = true by simp] at HD
  obtain ⟨a0, a1, a2, a3, a4, _⟩ := five hV.hb
  obtain ⟨b0, b1, b2, b3, b4, _⟩ := five hX.hb
  obtain ⟨f0, f1, _⟩ := two hf
  have HC := Lib.hid hC
  obtain ⟨v, rfl⟩ := hF.open
  clear hC hF hV hX hf
  conv => arg 2; arg 1; whnf
  go_wp2_with fail
  refine HD.out.mono ?_
  rintro e w5 ⟨rfl, hb⟩
  have HB5 := Lib.hid hb
  clear hb
  go_wp2_with fail
  exact HC.out _ _ ⟨by simp, rfl, rfl, rfl, rfl, rfl, rfl, rfl, rfl, rfl, rfl, rfl, rfl⟩ HB5.out

set_option maxRecDepth 100000 in
set_option maxHeartbeats 1600000 in
theorem tR15 {w W : World} {xo : Option Addr} {xc : Nat} {L : List Int} {R : Bk} {e1 e2 : Int} {A : Array Value} {Q : Exit → Act → World → Prop} {rest : Code} {rs ok pb x ex pq pf pd pg y hy : Value}
    (hlo : w.heap.size ≤ W.heap.size) (hL : Rb W xo L) (bl : Bs L) (nl : L.length ≤ 140737488355328) (hR : readR L = (R, e1, e2)) (hF : Fi A (.slice xo L.length xc) rs ok pb x ex pq pf pd pg y hy)
    (hC : ∀ (A' : Array Value) (W' : World) (p q : Nat) (la : Option Addr) (cap : Nat), Fi A' (.slice xo L.length xc) rs ok pb x ex pq pf (.pointer (some ⟨p, 0, none⟩)) (.pointer (some ⟨q, 0, none⟩)) y hy → Below W.heap.size W W' → Var w W' p R la cap → W'.heap[q]? = some (.cells #[.int .i64 e1, .int .i64 e2] 49 (0, 0)) → Code.wp Try.prog rest Q ⟨A', []⟩ W') :
    Code.wp Try.prog (.seq (kt [true, true, true, false]) rest) Q ⟨A, []⟩ W := by
  have HD := read_any xo L xc W hL bl nl
  rw [hR] at HD
  simp only at HD
  have HD := Lib.hid HD
  have HC := Lib.hid hC
  obtain ⟨v, rfl⟩ := hF.open
  clear hC hF hL bl nl hR
  conv => arg 2; arg 1; whnf
  go_wp2_with fail
  refine HD.out.mono ?_
  rintro e w5 ⟨la, cap, rfl, hown, hb⟩
  have HB5 := Lib.hid hb
  have HO5 := Lib.hid (hown.mono hlo)
  clear hb hown
  go_wp2_with fail
  exact HC.out _ _ w5.heap.size (w5.heap.size + 1) la cap ⟨by simp, rfl, rfl, rfl, rfl, rfl, rfl, rfl, rfl, rfl, rfl, rfl, rfl⟩ ((HB5.out.alloc HB5.out.size _).alloc (by have := HB5.out.size; simp; omega) _) ⟨(heap_old _ _ (by simp)).trans (heap_at w5 _ rfl), (HO5.out.alloc _).alloc _⟩ (heap_at _ _ (by simp))

set_option maxRecDepth 100000 in
set_option maxHeartbeats 1600000 in
theorem tR16_err {w W : World} {d g : Nat} {ad : Option Addr} {cd : Nat} {e1 e2 : Int} {A : Array Value} {Q : Exit → Act → World → Prop} {rest : Code} {raw rs pb x ex pq pf y hy : Value}
    (hV : Var w W d B0 ad cd) (hg : W.heap[g]? = some (.cells #[.int .i64 e1, .int .i64 e2] 49 (0, 0))) (he : e1 ≠ 0)
    (hF : Fi A raw rs (.bool true) pb x ex pq pf (.pointer (some ⟨d, 0, none⟩)) (.pointer (some ⟨g, 0, none⟩)) y hy)
    (hC : ∀ (A' : Array Value) (W' : World), Fi A' raw (.bool true) (.bool true) pb x ex pq pf (.pointer (some ⟨d, 0, none⟩)) (.pointer (some ⟨g, 0, none⟩)) y hy → Below W.heap.size W W' → Q .ret ⟨A', []⟩ W') :
    Code.wp Try.prog (.seq (kt [true, true, true, true, false]) rest) Q ⟨A, []⟩ W := by
  have HD := Lib.hid (sameBank_any ad none B0 B0 cd 0 W hV.own.rd (fun k hk => absurd hk (by simp [B0])) (by simp [B0]) (by simp [B0]))
  rw [show decide (B0 = B0) = true by simp] at HD
  obtain ⟨a0, a1, a2, a3, a4, _⟩ := five hV.hb
  obtain ⟨f0, f1, _⟩ := two hg
  have hd : decide (e1 = 0) = false := by simp [he]
  have HC := Lib.hid hC
  obtain ⟨v, rfl⟩ := hF.open
  clear hC hF hV hg
  conv => arg 2; arg 1; whnf
  go_wp2_with fail
  refine HD.out.mono ?_
  rintro e w5 ⟨rfl, hb⟩
  have HB5 := Lib.hid hb
  clear hb
  go_wp2_with fail
  exact HC.out _ _ ⟨by simp, rfl, rfl, rfl, rfl, rfl, rfl, rfl, rfl, rfl, rfl, rfl, rfl⟩ HB5.out

set_option maxRecDepth 100000 in
set_option maxHeartbeats 1600000 in
theorem tR16_ok {W : World} {g : Nat} {e2 : Int} {A : Array Value} {Q : Exit → Act → World → Prop} {rest : Code} {raw rs ok pb x ex pq pf pd y hy : Value}
    (hg : W.heap[g]? = some (.cells #[.int .i64 0, .int .i64 e2] 49 (0, 0)))
    (hF : Fi A raw rs ok pb x ex pq pf pd (.pointer (some ⟨g, 0, none⟩)) y hy)
    (hC : ∀ (A' : Array Value), Fi A' raw rs ok pb x ex pq pf pd (.pointer (some ⟨g, 0, none⟩)) y hy → Code.wp Try.prog rest Q ⟨A', []⟩ W) :
    Code.wp Try.prog (.seq (kt [true, true, true, true, false]) rest) Q ⟨A, []⟩ W := by
  obtain ⟨f0, f1, _⟩ := two hg
  have HC := Lib.hid hC
  obtain ⟨v, rfl⟩ := hF.open
  clear hC hF hg
  conv => arg 2; arg 1; whnf
  go_wp2_with fail
  exact HC.out _ ⟨by simp, rfl, rfl, rfl, rfl, rfl, rfl, rfl, rfl, rfl, rfl, rfl, rfl⟩

set_option maxRecDepth 100000 in
set_option maxHeartbeats 1600000 in
theorem tR18 {w W : World} {b : Nat} {B : Bk} {ao : Option Addr} {c : Nat} {A : Array Value} {Q : Exit → Act → World → Prop} {rest : Code} {raw rs ok pb x ex pq pf pg y hy : Value}
    (hV : Var w W b B ao c) (hw : B.Wf) (hc : B.chk = 0) (hF : Fi A raw rs ok pb x ex pq pf (.pointer (some ⟨b, 0, none⟩)) pg y hy)
    (hC : ∀ (A' : Array Value) (W' : World) (g cap : Nat), Fi A' raw rs ok pb x ex pq pf (.pointer (some ⟨b, 0, none⟩)) pg (.slice (some ⟨g, 0, none⟩) (bytesL B).length cap) (.int .i64 0) → Below W.heap.size W W' → OwnY W' W.heap.size (some ⟨g, 0, none⟩) cap (bytesL B) → Code.wp Try.prog rest Q ⟨A', []⟩ W') :
    Code.wp Try.prog (.seq (kt [true, true, true, true, true, false]) rest) Q ⟨A, []⟩ W := by
  have HC := Lib.hid hC
  have HD := Lib.hid (bytes_yes ao B c W hV.own.rd hw hc)
  obtain ⟨a0, a1, a2, a3, a4, _⟩ := five hV.hb
  obtain ⟨v, rfl⟩ := hF.open
  clear hC hF hV hw hc
  conv => arg 2; arg 1; whnf
  go_wp2_with fail
  refine HD.out.mono ?_
  rintro e w5 ⟨g, cap, rfl, hown, hb⟩
  have HB5 := Lib.hid hb
  have HO5 := Lib.hid hown
  clear hb hown
  go_wp2_with fail
  exact HC.out _ _ g cap ⟨by simp, rfl, rfl, rfl, rfl, rfl, rfl, rfl, rfl, rfl, rfl, rfl, rfl⟩ HB5.out HO5.out

set_option maxRecDepth 100000 in
set_option maxHeartbeats 1600000 in
theorem tR19 {W : World} {yo ro : Option Addr} {yc rc : Nat} {L : List Int} {A : Array Value} {Q : Exit → Act → World → Prop} {rs pb x ex pq pf pd pg : Value}
    (hY : Rb W yo L) (hR : Rb W ro L) (bl : Bs L)
    (hF : Fi A (.slice ro L.length rc) rs (.bool true) pb x ex pq pf pd pg (.slice yo L.length yc) (.int .i64 0))
    (hC : ∀ (A' : Array Value), Fi A' (.slice ro L.length rc) (.bool true) (.bool true) pb x ex pq pf pd pg (.slice yo L.length yc) (.int .i64 0) → Q .ret ⟨A', []⟩ W) :
    Code.wp Try.prog (kt [true, true, true, true, true, true]) Q ⟨A, []⟩ W := by
  have HD := Lib.hid (sameBytes_any yo ro L L yc rc W hY hR bl bl)
  rw [show decide (L = L) = true by simp] at HD
  have HC := Lib.hid hC
  obtain ⟨v, rfl⟩ := hF.open
  clear hC hF hY hR bl
  conv => arg 2; whnf
  go_wp2_with fail
  refine HD.out.mono ?_
  rintro e w5 ⟨rfl, rfl⟩
  go_wp2_with fail
  exact HC.out _ ⟨by simp, rfl, rfl, rfl, rfl, rfl, rfl, rfl, rfl, rfl, rfl, rfl, rfl⟩

end Go.Proofs.Ytjiffflhedekfaa
end
section
/- A frame of 104 slots: what of it is known at a cut. -/
namespace Go.Proofs.Ytjiffflhedekfaa
open Go.RowKit
set_option maxRecDepth 100000
structure Fj (A : Array Value) (l la raw : Value) : Prop where
  size : A.size = 104
  h0 : A[0]? = some l
  h1 : A[1]? = some la
  h2 : A[2]? = some raw
theorem Fj.lit (u : Nat → Value) : ((List.range 104).map u).toArray = List.toArray (u 0 :: u 1 :: u 2 :: u 3 :: u 4 :: u 5 :: u 6 :: u 7 :: u 8 :: u 9 :: u 10 :: u 11 :: u 12 :: u 13 :: u 14 :: u 15 :: u 16 :: u 17 :: u 18 :: u 19 :: u 20 :: u 21 :: u 22 :: u 23 :: u 24 :: u 25 :: u 26 :: u 27 :: u 28 :: u 29 :: u 30 :: u 31 :: u 32 :: u 33 :: u 34 :: u 35 :: u 36 :: u 37 :: u 38 :: u 39 :: u 40 :: u 41 :: u 42 :: u 43 :: u 44 :: u 45 :: u 46 :: u 47 :: u 48 :: u 49 :: u 50 :: u 51 :: u 52 :: u 53 :: u 54 :: u 55 :: u 56 :: u 57 :: u 58 :: u 59 :: u 60 :: u 61 :: u 62 :: u 63 :: u 64 :: u 65 :: u 66 :: u 67 :: u 68 :: u 69 :: u 70 :: u 71 :: u 72 :: u 73 :: u 74 :: u 75 :: u 76 :: u 77 :: u 78 :: u 79 :: u 80 :: u 81 :: u 82 :: u 83 :: u 84 :: u 85 :: u 86 :: u 87 :: u 88 :: u 89 :: u 90 :: u 91 :: u 92 :: u 93 :: u 94 :: u 95 :: u 96 :: u 97 :: u 98 :: u 99 :: u 100 :: u 101 :: u 102 :: u 103 :: []) := by kernel_rfl
theorem Fj.any (A : Array Value) (h : A.size = 104) : ∃ u : Nat → Value, A = ((List.range 104).map u).toArray := by
  refine ⟨fun i => A.getD i undef, ?_⟩
  apply Array.ext
  · simp [h]
  · intro i h1 h2
    simp [h1]
theorem Fj.open {A : Array Value} {l la raw : Value} (h : Fj A l la raw) : ∃ u : Nat → Value, A = List.toArray (l :: la :: raw :: u 3 :: u 4 :: u 5 :: u 6 :: u 7 :: u 8 :: u 9 :: u 10 :: u 11 :: u 12 :: u 13 :: u 14 :: u 15 :: u 16 :: u 17 :: u 18 :: u 19 :: u 20 :: u 21 :: u 22 :: u 23 :: u 24 :: u 25 :: u 26 :: u 27 :: u 28 :: u 29 :: u 30 :: u 31 :: u 32 :: u 33 :: u 34 :: u 35 :: u 36 :: u 37 :: u 38 :: u 39 :: u 40 :: u 41 :: u 42 :: u 43 :: u 44 :: u 45 :: u 46 :: u 47 :: u 48 :: u 49 :: u 50 :: u 51 :: u 52 :: u 53 :: u 54 :: u 55 :: u 56 :: u 57 :: u 58 :: u 59 :: u 60 :: u 61 :: u 62 :: u 63 :: u 64 :: u 65 :: u 66 :: u 67 :: u 68 :: u 69 :: u 70 :: u 71 :: u 72 :: u 73 :: u 74 :: u 75 :: u 76 :: u 77 :: u 78 :: u 79 :: u 80 :: u 81 :: u 82 :: u 83 :: u 84 :: u 85 :: u 86 :: u 87 :: u 88 :: u 89 :: u 90 :: u 91 :: u 92 :: u 93 :: u 94 :: u 95 :: u 96 :: u 97 :: u 98 :: u 99 :: u 100 :: u 101 :: u 102 :: u 103 :: []) := by
  obtain ⟨u, hu⟩ := Fj.any A h.size
  refine ⟨u, ?_⟩
  have g : ∀ i, i < 104 → A[i]? = some (u i) := fun i hi => by rw [hu]; simp [hi]
  have e0 := Option.some.inj ((g 0 (by omega)).symm.trans h.h0)
  have e1 := Option.some.inj ((g 1 (by omega)).symm.trans h.h1)
  have e2 := Option.some.inj ((g 2 (by omega)).symm.trans h.h2)
  subst e0 e1 e2
  rw [hu]
  exact Fj.lit u
end Go.Proofs.Ytjiffflhedekfaa
end
section
/- BankForms: the function. -/
namespace Go.Proofs.Ytjiffflhedekfaa
open Go.RowKit

theorem readR_err {raw : List Int} {R : Bk} {e1 e2 : Int} (h : readR raw = (R, e1, e2)) (he : e1 ≠ 0) : R = B0 := by
  unfold readR at h
  split at h
  · exact (congrArg (·.1) h).symm
  split at h
  · exact (congrArg (·.1) h).symm
  · exact absurd (congrArg (·.2.1) h).symm he
theorem putA_bs {l : List Int} (h : Ws l) : Bs (putA l) := by
  induction l with
  | nil => exact Bs.nil
  | cons x l ih =>
    have hx := h x (List.mem_cons_self ..)
    exact (putF_bs 9 x hx.1 (by have := hx.2; omega)).append (ih fun y hy => h y (List.mem_cons_of_mem _ hy))
theorem bytesL_bs {B : Bk} (hw : B.Wf) (hc : B.chk = 0) : Bs (bytesL B) := by
  have := chk_tot hc
  exact (putF_bs 9 _ (by omega) (by omega)).append (putA_bs hw.all)
theorem bytesL_le {B : Bk} (hc : B.chk = 0) : (bytesL B).length ≤ 140737488355328 := by
  have h := chk_tot hc
  have h1 := putF_len 9 B.L.length
  have h2 := putA_len B.all
  have h3 : B.all.length = B.L.length + 4 := by simp [Bk.all]
  rw [bytesL, List.length_append]
  simp only [putL]
  omega

set_option maxRecDepth 100000 in
set_option maxHeartbeats 3200000 in
theorem kfIn {ao0 : Option Addr} {l0 : List Int} {c0 : Nat} {la ro : Option Addr} {l : List Ac} {lc n m rc : Nat} {w : World} {A : Array Value} {Q : Exit → Act → World → Prop} {rest : Code}
    (hln : l.length = n) (hl0 : Rd w ao0 l0) (hw0 : Ws l0) (nl0 : l0.length ≤ 9223372036854775807) (hA : ActsAt w la l) (hI : AcsIn l) (hn : n ≤ 20) (hm : m ≤ 800)
    (hF : Fj A (.slice ao0 l0.length c0) (.slice la n lc) (.slice ro m rc))
    (hC : ∀ (A' : Array Value) (W' : World) (b : Nat) (B : Bk) (ao : Option Addr) (c : Nat) (rs x ex pq pf pd pg y hy : Value), Fi A' (.slice ro m rc) rs (.bool true) (.pointer (some ⟨b, 0, none⟩)) x ex pq pf pd pg y hy → Below w.heap.size w W' → Var w W' b B ao c → B.Wf → B.chk = 0 → Code.wp Try.prog rest Q ⟨A', []⟩ W') :
    Code.wp Try.prog (.seq (nav (Try.f8.body.getD .skip) [false]) (.seq (nav (Try.f8.body.getD .skip) [true, false]) (.seq (nav (Try.f8.body.getD .skip) [true, true, false]) (.seq (nav (Try.f8.body.getD .skip) [true, true, true, false]) (.seq (nav (Try.f8.body.getD .skip) [true, true, true, true, false]) rest))))) Q ⟨A, []⟩ w := by
  have HL := Lib.hid hl0
  have HW := Lib.hid hw0
  have HC := Lib.hid hC
  have HN := Lib.hid nl0
  have HAc := Lib.hid hA
  have HIn := Lib.hid hI
  have HLn := Lib.hid hln
  obtain ⟨v, rfl⟩ := hF.open
  clear hl0 hw0 hC hF nl0 hA hI hln
  conv => arg 2; arg 1; whnf
  conv => arg 2; arg 2; arg 1; whnf
  conv => arg 2; arg 2; arg 2; arg 1; whnf
  conv => arg 2; arg 2; arg 2; arg 2; arg 1; whnf
  conv => arg 2; arg 2; arg 2; arg 2; arg 2; arg 1; whnf
  go_wp2_with fail
  refine (bankKnown_any w).mono ?_
  rintro e w1 ⟨rfl, hb⟩
  have HB := Lib.hid hb
  clear hb
  go_wp2_with fail
  refine (some_any ao0 l0 c0 w1 (HL.out.below HB.out) HW.out HN.out).mono ?_
  rintro e w2 ⟨B, ao, c, rfl, hown, hb, hwf, hchk, hle⟩
  have HB2 := Lib.hid (HB.out.trans (hb.mono HB.out.size))
  have hK := Lib.hid (⟨HB2.out.alloc HB2.out.size _, ⟨heap_at w2 _ rfl, (hown.mono HB.out.size).alloc _⟩, hwf, hchk, rfl, hle, HB2.out.size⟩ : Kp w (w2.alloc (.cells #[.slice ao B.L.length c, .int .u64 B.p0, .int .u64 B.p1, .int .u64 B.p2, .int .u64 B.p3] 26)) w2.heap.size B ao c B.tot)
  clear hown hb hwf hchk
  go_wp2_with fail
  change Code.wp Try.prog (.loop (kf [])) _ _ _
  refine kfLoop HLn.out hn HAc.out HIn.out hK.out ⟨by simp, rfl, rfl, rfl, rfl, rfl⟩ ?_
  intro A' W' i B' ao' c' hF hK
  have HK := Lib.hid hK
  obtain ⟨v, rfl⟩ := hF.open
  clear hK hF
  go_wp2_with fail
  exact HC.out _ _ _ B' ao' c' _ _ _ _ _ _ _ _ _ ⟨by simp, rfl, rfl, rfl, rfl, rfl, rfl, rfl, rfl, rfl, rfl, rfl, rfl⟩ HK.out.below HK.out.v HK.out.wf HK.out.chk

set_option maxRecDepth 100000 in
set_option maxHeartbeats 3200000 in
theorem bankForms_near (ao0 : Option Addr) (l0 : List Int) (c0 : Nat) (la : Option Addr) (l : List Ac) (lc n : Nat) (ro : Option Addr) (raw : List Int) (m rc : Nat) (w : World) (hln : l.length = n) (hrm : raw.length = m) (hl0 : Rd w ao0 l0) (hw0 : Ws l0) (nl0 : l0.length ≤ 9223372036854775807) (hA : ActsAt w la l) (hI : AcsIn l) (hr : Rb w ro raw) (hbr : Bs raw) (hn : n ≤ 20) (hm : m ≤ 800) :
    Calls Try.prog 8 #[.slice ao0 l0.length c0, .slice la n lc, .slice ro m rc] w fun e w' => e = .returned (.bool true) ∧ Below w.heap.size w w' := by
  go_enter Try.func8, Try.ntmps8
  change Code.wp Try.prog (.seq (nav (Try.f8.body.getD .skip) [false]) (.seq (nav (Try.f8.body.getD .skip) [true, false]) (.seq (nav (Try.f8.body.getD .skip) [true, true, false]) (.seq (nav (Try.f8.body.getD .skip) [true, true, true, false]) (.seq (nav (Try.f8.body.getD .skip) [true, true, true, true, false])
    (.seq (kt [false]) (.seq (kt [true, false]) (.seq (kt [true, true, false]) (.seq (kt [true, true, true, false]) (.seq (kt [true, true, true, true, false]) (.seq (kt [true, true, true, true, true, false]) (kt [true, true, true, true, true, true])))))))))))) _ _ _
  refine kfIn hln hl0 hw0 nl0 hA hI hn hm ⟨by simp, rfl, rfl, rfl⟩ ?_
  intro A W b B ao c rs x ex pq pf pd pg y hy hF hB hV hwf hc
  have hlen := chk_tot hc
  subst hrm
  refine tR11 hV hwf hc hF fun A1 W1 g cap hF hb1 hO => ?_
  have hB1 := hB.trans (hb1.mono hB.size)
  refine tR12 hB1.size hO.rb (bytesL_bs hwf hc) (bytesL_le hc) (read_bytes hwf hc) hF fun A2 W2 p q aq cq hF hb2 hX hf => ?_
  have hB2 := hB1.trans (hb2.mono hB1.size)
  refine tR13 ((hV.step hb1).step hb2) hX hf (by omega) hF fun A3 W3 hF hb3 => ?_
  have hB3 := hB2.trans (hb3.mono hB2.size)
  cases hR : readR raw with
  | mk R e =>
    obtain ⟨e1, e2⟩ := e
    refine tR15 hB3.size (hr.below hB3) hbr (by omega) hR hF fun A4 W4 d gf ad cd hF hb4 hD hg => ?_
    have hB4 := hB3.trans (hb4.mono hB3.size)
    by_cases he : e1 = 0
    · subst he
      have hP := bytes_read hbr (show (readR raw).2.1 = 0 by rw [hR])
      rw [hR] at hP
      simp only at hP
      refine tR16_ok hg hF fun A5 hF => ?_
      refine tR18 hD hP.1 hP.2.1 hF fun A6 W6 yb yc hF hb6 hO6 => ?_
      have hB6 := hB4.trans (hb6.mono hB4.size)
      rw [hP.2.2] at hF hO6
      refine tR19 hO6.rb (hr.below hB6) hbr hF fun A7 hF => ?_
      obtain ⟨v, rfl⟩ := hF.open
      go_ret
      exact ⟨rfl, hB6⟩
    · obtain rfl := readR_err hR he
      refine tR16_err hD hg he hF fun A5 W5 hF hb5 => ?_
      obtain ⟨v, rfl⟩ := hF.open
      go_ret
      exact ⟨rfl, hB4.trans (hb5.mono hB4.size)⟩

set_option maxRecDepth 100000 in
set_option maxHeartbeats 3200000 in
theorem bankForms_far (ao0 : Option Addr) (n0 c0 : Nat) (la : Option Addr) (lc n : Nat) (ro : Option Addr) (m rc : Nat) (w : World) (h : 20 < n ∨ 800 < m) (nl : n ≤ 9223372036854775807) (nm : m ≤ 9223372036854775807) :
    Calls Try.prog 8 #[.slice ao0 n0 c0, .slice la n lc, .slice ro m rc] w fun e w' => e = .returned (.bool true) ∧ Below w.heap.size w w' := by
  by_cases h1 : 20 < n
  · clear h
    go_enter Try.func8, Try.ntmps8
    go_wp2_with fail
    refine (bankKnown_any w).mono ?_
    rintro e w1 ⟨rfl, hb⟩
    have HB := Lib.hid hb
    clear hb
    go_wp2_with fail
    go_ret
    exact ⟨rfl, HB.out⟩
  · have h2 : 800 < m := by omega
    have h3 : n ≤ 20 := by omega
    clear h h1
    go_enter Try.func8, Try.ntmps8
    go_wp2_with fail
    refine (bankKnown_any w).mono ?_
    rintro e w1 ⟨rfl, hb⟩
    have HB := Lib.hid hb
    clear hb
    go_wp2_with fail
    go_ret
    exact ⟨rfl, HB.out⟩
end Go.Proofs.Ytjiffflhedekfaa
end
