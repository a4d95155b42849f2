/- Fb, Bb0, Bb1, Bb2, Bb3, Bb4, Bb5, Bb6, Bb7, Fe, Bbk: texts of this claim, merged. -/
import Derived.WalkKit
import Derived.WalkSpells
import Derived.WalkLawsBesides
import Derived.Lib.Hide
import Derived.Test.YtjiffflhedekfaaProg
import Derived.Test.YtjiffflhedekfaaBm0
import Derived.Test.YtjiffflhedekfaaKn0
import Derived.Test.YtjiffflhedekfaaRdM
import Derived.Test.YtjiffflhedekfaaBlM
import Derived.Deep.RegionHeld3
import Derived.Test.YtjiffflhedekfaaNea
import Derived.Test.YtjiffflhedekfaaKn3
import Derived.Test.YtjiffflhedekfaaSom
section
/- A frame of 94 slots: what of it is known at a cut. -/
namespace Go.Proofs.Ytjiffflhedekfaa
open Go.RowKit
set_option maxRecDepth 100000
structure Fb (A : Array Value) (px py rs ok pb pc e pz isb pd f p2 f2 pg hh pi k : Value) : Prop where
  size : A.size = 94
  h4 : A[4]? = some px
  h5 : A[5]? = some py
  h6 : A[6]? = some rs
  h7 : A[7]? = some ok
  h8 : A[8]? = some pb
  h9 : A[9]? = some pc
  h10 : A[10]? = some e
  h11 : A[11]? = some pz
  h12 : A[12]? = some isb
  h13 : A[13]? = some pd
  h14 : A[14]? = some f
  h15 : A[15]? = some p2
  h16 : A[16]? = some f2
  h17 : A[17]? = some pg
  h18 : A[18]? = some hh
  h19 : A[19]? = some pi
  h20 : A[20]? = some k
theorem Fb.lit (u : Nat → Value) : ((List.range 94).map u).toArray = List.toArray (u 0 :: u 1 :: u 2 :: u 3 :: u 4 :: u 5 :: u 6 :: u 7 :: u 8 :: u 9 :: u 10 :: u 11 :: u 12 :: u 13 :: u 14 :: u 15 :: u 16 :: u 17 :: u 18 :: u 19 :: u 20 :: u 21 :: u 22 :: u 23 :: u 24 :: u 25 :: u 26 :: u 27 :: u 28 :: u 29 :: u 30 :: u 31 :: u 32 :: u 33 :: u 34 :: u 35 :: u 36 :: u 37 :: u 38 :: u 39 :: u 40 :: u 41 :: u 42 :: u 43 :: u 44 :: u 45 :: u 46 :: u 47 :: u 48 :: u 49 :: u 50 :: u 51 :: u 52 :: u 53 :: u 54 :: u 55 :: u 56 :: u 57 :: u 58 :: u 59 :: u 60 :: u 61 :: u 62 :: u 63 :: u 64 :: u 65 :: u 66 :: u 67 :: u 68 :: u 69 :: u 70 :: u 71 :: u 72 :: u 73 :: u 74 :: u 75 :: u 76 :: u 77 :: u 78 :: u 79 :: u 80 :: u 81 :: u 82 :: u 83 :: u 84 :: u 85 :: u 86 :: u 87 :: u 88 :: u 89 :: u 90 :: u 91 :: u 92 :: u 93 :: []) := by kernel_rfl
theorem Fb.any (A : Array Value) (h : A.size = 94) : ∃ u : Nat → Value, A = ((List.range 94).map u).toArray := by
  refine ⟨fun i => A.getD i undef, ?_⟩
  apply Array.ext
  · simp [h]
  · intro i h1 h2
    simp [h1]
theorem Fb.open {A : Array Value} {px py rs ok pb pc e pz isb pd f p2 f2 pg hh pi k : Value} (h : Fb A px py rs ok pb pc e pz isb pd f p2 f2 pg hh pi k) : ∃ u : Nat → Value, A = List.toArray (u 0 :: u 1 :: u 2 :: u 3 :: px :: py :: rs :: ok :: pb :: pc :: e :: pz :: isb :: pd :: f :: p2 :: f2 :: pg :: hh :: pi :: k :: u 21 :: u 22 :: u 23 :: u 24 :: u 25 :: u 26 :: u 27 :: u 28 :: u 29 :: u 30 :: u 31 :: u 32 :: u 33 :: u 34 :: u 35 :: u 36 :: u 37 :: u 38 :: u 39 :: u 40 :: u 41 :: u 42 :: u 43 :: u 44 :: u 45 :: u 46 :: u 47 :: u 48 :: u 49 :: u 50 :: u 51 :: u 52 :: u 53 :: u 54 :: u 55 :: u 56 :: u 57 :: u 58 :: u 59 :: u 60 :: u 61 :: u 62 :: u 63 :: u 64 :: u 65 :: u 66 :: u 67 :: u 68 :: u 69 :: u 70 :: u 71 :: u 72 :: u 73 :: u 74 :: u 75 :: u 76 :: u 77 :: u 78 :: u 79 :: u 80 :: u 81 :: u 82 :: u 83 :: u 84 :: u 85 :: u 86 :: u 87 :: u 88 :: u 89 :: u 90 :: u 91 :: u 92 :: u 93 :: []) := by
  obtain ⟨u, hu⟩ := Fb.any A h.size
  refine ⟨u, ?_⟩
  have g : ∀ i, i < 94 → A[i]? = some (u i) := fun i hi => by rw [hu]; simp [hi]
  have e4 := Option.some.inj ((g 4 (by omega)).symm.trans h.h4)
  have e5 := Option.some.inj ((g 5 (by omega)).symm.trans h.h5)
  have e6 := Option.some.inj ((g 6 (by omega)).symm.trans h.h6)
  have e7 := Option.some.inj ((g 7 (by omega)).symm.trans h.h7)
  have e8 := Option.some.inj ((g 8 (by omega)).symm.trans h.h8)
  have e9 := Option.some.inj ((g 9 (by omega)).symm.trans h.h9)
  have e10 := Option.some.inj ((g 10 (by omega)).symm.trans h.h10)
  have e11 := Option.some.inj ((g 11 (by omega)).symm.trans h.h11)
  have e12 := Option.some.inj ((g 12 (by omega)).symm.trans h.h12)
  have e13 := Option.some.inj ((g 13 (by omega)).symm.trans h.h13)
  have e14 := Option.some.inj ((g 14 (by omega)).symm.trans h.h14)
  have e15 := Option.some.inj ((g 15 (by omega)).symm.trans h.h15)
  have e16 := Option.some.inj ((g 16 (by omega)).symm.trans h.h16)
  have e17 := Option.some.inj ((g 17 (by omega)).symm.trans h.h17)
  have e18 := Option.some.inj ((g 18 (by omega)).symm.trans h.h18)
  have e19 := Option.some.inj ((g 19 (by omega)).symm.trans h.h19)
  have e20 := Option.some.inj ((g 20 (by omega)).symm.trans h.h20)
  subst e4 e5 e6 e7 e8 e9 e10 e11 e12 e13 e14 e15 e16 e17 e18 e19 e20
  rw [hu]
  exact Fb.lit u
end Go.Proofs.Ytjiffflhedekfaa
end
section
/- BankBack: its code in parts. -/
namespace Go.Proofs.Ytjiffflhedekfaa
open Go.RowKit
noncomputable def bb (p : List Bool) : Code := nav (Try.f7.body.getD .skip) ([true, true, true, true] ++ p)
end Go.Proofs.Ytjiffflhedekfaa
end
section
/- BankBack: the move x. -/
namespace Go.Proofs.Ytjiffflhedekfaa
open Go.RowKit

set_option maxRecDepth 100000 in
set_option maxHeartbeats 4000000 in
theorem bbR4 {w W : World} {b xp : Nat} {B X : Bk} {ao : Option Addr} {c : Nat} {xk xf xt xn er : Int} {A : Array Value} {Q : Exit → Act → World → Prop} {rest : Code} {py rs ok pc e pz isb pd f p2 f2 pg hh pi k : Value}
    (hV : Var w W b B ao c) (hlo : w.heap.size ≤ W.heap.size) (hw : B.Wf) (hle : B.L.length ≤ 8) (hx : W.heap[xp]? = some (.cells #[.int .i64 xk, .int .i64 xf, .int .i64 xt, .int .u64 xn] 41 (0, 0))) (hn : W64 xn) (hX : doesR B xk xf xt xn = (X, er))
    (hF : Fb A (.pointer (some ⟨xp, 0, none⟩)) py rs ok (.pointer (some ⟨b, 0, none⟩)) pc e pz isb pd f p2 f2 pg hh pi k)
    (hC : ∀ (A' : Array Value) (W' : World) (bx : Nat) (ax : Option Addr) (cx : Nat), Fb A' (.pointer (some ⟨xp, 0, none⟩)) py rs ok (.pointer (some ⟨b, 0, none⟩)) (.pointer (some ⟨bx, 0, none⟩)) (.int .i64 er) pz isb pd f p2 f2 pg hh pi k → Below W.heap.size W W' → Var w W' bx X ax cx → Code.wp Try.prog rest Q ⟨A', []⟩ W') :
    Code.wp Try.prog (.seq (bb [false]) rest) Q ⟨A, []⟩ W := by
  have HD : Hid (∀ (W' : World), Below W.heap.size W W' → Calls Try.prog 23 #[.agg #[.slice ao B.L.length c, .int .u64 B.p0, .int .u64 B.p1, .int .u64 B.p2, .int .u64 B.p3], .agg #[.int .i64 xk, .int .i64 xf, .int .i64 xt, .int .u64 xn]] W' fun e w' => ∃ ax cx, e = .returned (.tuple #[.agg #[.slice ax X.L.length cx, .int .u64 X.p0, .int .u64 X.p1, .int .u64 X.p2, .int .u64 X.p3], .int .i64 er]) ∧ OwnW w' W'.heap.size ax cx X.L ∧ Below W'.heap.size W' w') :=
    Lib.hid (fun W' h => by have := does_any ao B c xk xf xt xn W' (hV.step h).own.rd hw (by omega) hn; rw [hX] at this; exact this)
  have HS : Hid (∀ (w' : World), Below W.heap.size W w' → w'.cell? ⟨b, 0, none⟩ = some (.slice ao B.L.length c) ∧ w'.cell? ⟨b, 1, none⟩ = some (.int .u64 B.p0) ∧ w'.cell? ⟨b, 2, none⟩ = some (.int .u64 B.p1) ∧ w'.cell? ⟨b, 3, none⟩ = some (.int .u64 B.p2) ∧ w'.cell? ⟨b, 4, none⟩ = some (.int .u64 B.p3) ∧ w'.cell? ⟨xp, 0, none⟩ = some (.int .i64 xk) ∧ w'.cell? ⟨xp, 1, none⟩ = some (.int .i64 xf) ∧ w'.cell? ⟨xp, 2, none⟩ = some (.int .i64 xt) ∧ w'.cell? ⟨xp, 3, none⟩ = some (.int .u64 xn)) := Lib.hid (fun W' h => by
    obtain ⟨a0, a1, a2, a3, a4, _⟩ := five (hV.step h).hb
    obtain ⟨h0, h1, h2, h3, _⟩ := four ((h.block _ (lt_of_block hx)).trans hx)
    exact ⟨a0, a1, a2, a3, a4, h0, h1, h2, h3⟩)
  have HC := Lib.hid hC
  have hbz : b < W.heap.size := lt_of_block hV.hb
  have hxz : xp < W.heap.size := lt_of_block hx
  obtain ⟨v, rfl⟩ := hF.open
  clear hC hF hV hx hX hn hw
  obtain ⟨a0, a1, a2, a3, a4, h0, h1, h2, h3⟩ := HS.out _ (Below.refl _ _)
  conv => arg 2; arg 1; whnf
  go_wp2_with fail
  refine (HD.out _ (Below.refl _ _)).mono ?_
  rintro e w5 ⟨ax, cx, rfl, hown, hb⟩
  have HB5 := Lib.hid hb
  have HO5 := Lib.hid (hown.mono hlo)
  clear hb hown
  go_wp2_with fail
  exact HC.out _ _ w5.heap.size ax cx ⟨by simp, rfl, rfl, rfl, rfl, rfl, rfl, rfl, rfl, rfl, rfl, rfl, rfl, rfl, rfl, rfl, rfl, rfl⟩ (HB5.out.alloc HB5.out.size _) ⟨heap_at w5 _ rfl, HO5.out.alloc _⟩

end Go.Proofs.Ytjiffflhedekfaa
end
section
/- BankBack: the move back. -/
namespace Go.Proofs.Ytjiffflhedekfaa
open Go.RowKit

set_option maxRecDepth 100000 in
set_option maxHeartbeats 4000000 in
theorem bbR9 {w W : World} {b xp : Nat} {B X : Bk} {ao : Option Addr} {c : Nat} {xk xf xt xn er : Int} {A : Array Value} {Q : Exit → Act → World → Prop} {rest : Code} {px py rs ok pb e isb pd f p2 f2 pg hh pi k : Value}
    (hV : Var w W b B ao c) (hlo : w.heap.size ≤ W.heap.size) (hw : B.Wf) (hle : B.L.length ≤ 8) (hx : W.heap[xp]? = some (.cells #[.int .i64 xk, .int .i64 xf, .int .i64 xt, .int .u64 xn] 41 (0, 0))) (hn : W64 xn) (hX : doesR B xk xf xt xn = (X, er))
    (hF : Fb A px py rs ok pb (.pointer (some ⟨b, 0, none⟩)) e (.pointer (some ⟨xp, 0, none⟩)) isb pd f p2 f2 pg hh pi k)
    (hC : ∀ (A' : Array Value) (W' : World) (bx : Nat) (ax : Option Addr) (cx : Nat), Fb A' px py rs ok pb (.pointer (some ⟨b, 0, none⟩)) e (.pointer (some ⟨xp, 0, none⟩)) isb (.pointer (some ⟨bx, 0, none⟩)) (.int .i64 er) p2 f2 pg hh pi k → Below W.heap.size W W' → Var w W' bx X ax cx → Code.wp Try.prog rest Q ⟨A', []⟩ W') :
    Code.wp Try.prog (.seq (bb [true, true, false, true, true, false, false]) rest) Q ⟨A, []⟩ W := by
  have HD : Hid (∀ (W' : World), Below W.heap.size W W' → Calls Try.prog 23 #[.agg #[.slice ao B.L.length c, .int .u64 B.p0, .int .u64 B.p1, .int .u64 B.p2, .int .u64 B.p3], .agg #[.int .i64 xk, .int .i64 xf, .int .i64 xt, .int .u64 xn]] W' fun e w' => ∃ ax cx, e = .returned (.tuple #[.agg #[.slice ax X.L.length cx, .int .u64 X.p0, .int .u64 X.p1, .int .u64 X.p2, .int .u64 X.p3], .int .i64 er]) ∧ OwnW w' W'.heap.size ax cx X.L ∧ Below W'.heap.size W' w') :=
    Lib.hid (fun W' h => by have := does_any ao B c xk xf xt xn W' (hV.step h).own.rd hw (by omega) hn; rw [hX] at this; exact this)
  have HS : Hid (∀ (w' : World), Below W.heap.size W w' → w'.cell? ⟨b, 0, none⟩ = some (.slice ao B.L.length c) ∧ w'.cell? ⟨b, 1, none⟩ = some (.int .u64 B.p0) ∧ w'.cell? ⟨b, 2, none⟩ = some (.int .u64 B.p1) ∧ w'.cell? ⟨b, 3, none⟩ = some (.int .u64 B.p2) ∧ w'.cell? ⟨b, 4, none⟩ = some (.int .u64 B.p3) ∧ w'.cell? ⟨xp, 0, none⟩ = some (.int .i64 xk) ∧ w'.cell? ⟨xp, 1, none⟩ = some (.int .i64 xf) ∧ w'.cell? ⟨xp, 2, none⟩ = some (.int .i64 xt) ∧ w'.cell? ⟨xp, 3, none⟩ = some (.int .u64 xn)) := Lib.hid (fun W' h => by
    obtain ⟨a0, a1, a2, a3, a4, _⟩ := five (hV.step h).hb
    obtain ⟨h0, h1, h2, h3, _⟩ := four ((h.block _ (lt_of_block hx)).trans hx)
    exact ⟨a0, a1, a2, a3, a4, h0, h1, h2, h3⟩)
  have HC := Lib.hid hC
  have hbz : b < W.heap.size := lt_of_block hV.hb
  have hxz : xp < W.heap.size := lt_of_block hx
  obtain ⟨v, rfl⟩ := hF.open
  clear hC hF hV hx hX hn hw
  obtain ⟨a0, a1, a2, a3, a4, h0, h1, h2, h3⟩ := HS.out _ (Below.refl _ _)
  conv => arg 2; arg 1; whnf
  go_wp2_with fail
  refine (HD.out _ (Below.refl _ _)).mono ?_
  rintro e w5 ⟨ax, cx, rfl, hown, hb⟩
  have HB5 := Lib.hid hb
  have HO5 := Lib.hid (hown.mono hlo)
  clear hb hown
  go_wp2_with fail
  exact HC.out _ _ w5.heap.size ax cx ⟨by simp, rfl, rfl, rfl, rfl, rfl, rfl, rfl, rfl, rfl, rfl, rfl, rfl, rfl, rfl, rfl, rfl, rfl⟩ (HB5.out.alloc HB5.out.size _) ⟨heap_at w5 _ rfl, HO5.out.alloc _⟩

end Go.Proofs.Ytjiffflhedekfaa
end
section
/- BankBack: the move y behind x. -/
namespace Go.Proofs.Ytjiffflhedekfaa
open Go.RowKit

set_option maxRecDepth 100000 in
set_option maxHeartbeats 4000000 in
theorem bbR12 {w W : World} {b xp : Nat} {B X : Bk} {ao : Option Addr} {c : Nat} {xk xf xt xn er : Int} {A : Array Value} {Q : Exit → Act → World → Prop} {rest : Code} {px rs ok pb e pz isb pd f p2 f2 pg hh pi k : Value}
    (hV : Var w W b B ao c) (hlo : w.heap.size ≤ W.heap.size) (hw : B.Wf) (hle : B.L.length ≤ 8) (hx : W.heap[xp]? = some (.cells #[.int .i64 xk, .int .i64 xf, .int .i64 xt, .int .u64 xn] 41 (0, 0))) (hn : W64 xn) (hX : doesR B xk xf xt xn = (X, er))
    (hF : Fb A px (.pointer (some ⟨xp, 0, none⟩)) rs ok pb (.pointer (some ⟨b, 0, none⟩)) e pz isb pd f p2 f2 pg hh pi k)
    (hC : ∀ (A' : Array Value) (W' : World) (bx : Nat) (ax : Option Addr) (cx : Nat), Fb A' px (.pointer (some ⟨xp, 0, none⟩)) rs ok pb (.pointer (some ⟨b, 0, none⟩)) e pz isb pd f (.pointer (some ⟨bx, 0, none⟩)) (.int .i64 er) pg hh pi k → Below W.heap.size W W' → Var w W' bx X ax cx → Code.wp Try.prog rest Q ⟨A', []⟩ W') :
    Code.wp Try.prog (.seq (bb [true, true, true, false]) rest) Q ⟨A, []⟩ W := by
  have HD : Hid (∀ (W' : World), Below W.heap.size W W' → Calls Try.prog 23 #[.agg #[.slice ao B.L.length c, .int .u64 B.p0, .int .u64 B.p1, .int .u64 B.p2, .int .u64 B.p3], .agg #[.int .i64 xk, .int .i64 xf, .int .i64 xt, .int .u64 xn]] W' fun e w' => ∃ ax cx, e = .returned (.tuple #[.agg #[.slice ax X.L.length cx, .int .u64 X.p0, .int .u64 X.p1, .int .u64 X.p2, .int .u64 X.p3], .int .i64 er]) ∧ OwnW w' W'.heap.size ax cx X.L ∧ Below W'.heap.size W' w') :=
    Lib.hid (fun W' h => by have := does_any ao B c xk xf xt xn W' (hV.step h).own.rd hw (by omega) hn; rw [hX] at this; exact this)
  have HS : Hid (∀ (w' : World), Below W.heap.size W w' → w'.cell? ⟨b, 0, none⟩ = some (.slice ao B.L.length c) ∧ w'.cell? ⟨b, 1, none⟩ = some (.int .u64 B.p0) ∧ w'.cell? ⟨b, 2, none⟩ = some (.int .u64 B.p1) ∧ w'.cell? ⟨b, 3, none⟩ = some (.int .u64 B.p2) ∧ w'.cell? ⟨b, 4, none⟩ = some (.int .u64 B.p3) ∧ w'.cell? ⟨xp, 0, none⟩ = some (.int .i64 xk) ∧ w'.cell? ⟨xp, 1, none⟩ = some (.int .i64 xf) ∧ w'.cell? ⟨xp, 2, none⟩ = some (.int .i64 xt) ∧ w'.cell? ⟨xp, 3, none⟩ = some (.int .u64 xn)) := Lib.hid (fun W' h => by
    obtain ⟨a0, a1, a2, a3, a4, _⟩ := five (hV.step h).hb
    obtain ⟨h0, h1, h2, h3, _⟩ := four ((h.block _ (lt_of_block hx)).trans hx)
    exact ⟨a0, a1, a2, a3, a4, h0, h1, h2, h3⟩)
  have HC := Lib.hid hC
  have hbz : b < W.heap.size := lt_of_block hV.hb
  have hxz : xp < W.heap.size := lt_of_block hx
  obtain ⟨v, rfl⟩ := hF.open
  clear hC hF hV hx hX hn hw
  obtain ⟨a0, a1, a2, a3, a4, h0, h1, h2, h3⟩ := HS.out _ (Below.refl _ _)
  conv => arg 2; arg 1; whnf
  go_wp2_with fail
  refine (HD.out _ (Below.refl _ _)).mono ?_
  rintro e w5 ⟨ax, cx, rfl, hown, hb⟩
  have HB5 := Lib.hid hb
  have HO5 := Lib.hid (hown.mono hlo)
  clear hb hown
  go_wp2_with fail
  exact HC.out _ _ w5.heap.size ax cx ⟨by simp, rfl, rfl, rfl, rfl, rfl, rfl, rfl, rfl, rfl, rfl, rfl, rfl, rfl, rfl, rfl, rfl, rfl⟩ (HB5.out.alloc HB5.out.size _) ⟨heap_at w5 _ rfl, HO5.out.alloc _⟩

end Go.Proofs.Ytjiffflhedekfaa
end
section
/- BankBack: the move y. -/
namespace Go.Proofs.Ytjiffflhedekfaa
open Go.RowKit

set_option maxRecDepth 100000 in
set_option maxHeartbeats 4000000 in
theorem bbR13 {w W : World} {b xp : Nat} {B X : Bk} {ao : Option Addr} {c : Nat} {xk xf xt xn er : Int} {A : Array Value} {Q : Exit → Act → World → Prop} {rest : Code} {px rs ok pc e pz isb pd f p2 f2 pg hh pi k : Value}
    (hV : Var w W b B ao c) (hlo : w.heap.size ≤ W.heap.size) (hw : B.Wf) (hle : B.L.length ≤ 8) (hx : W.heap[xp]? = some (.cells #[.int .i64 xk, .int .i64 xf, .int .i64 xt, .int .u64 xn] 41 (0, 0))) (hn : W64 xn) (hX : doesR B xk xf xt xn = (X, er))
    (hF : Fb A px (.pointer (some ⟨xp, 0, none⟩)) rs ok (.pointer (some ⟨b, 0, none⟩)) pc e pz isb pd f p2 f2 pg hh pi k)
    (hC : ∀ (A' : Array Value) (W' : World) (bx : Nat) (ax : Option Addr) (cx : Nat), Fb A' px (.pointer (some ⟨xp, 0, none⟩)) rs ok (.pointer (some ⟨b, 0, none⟩)) pc e pz isb pd f p2 f2 (.pointer (some ⟨bx, 0, none⟩)) (.int .i64 er) pi k → Below W.heap.size W W' → Var w W' bx X ax cx → Code.wp Try.prog rest Q ⟨A', []⟩ W') :
    Code.wp Try.prog (.seq (bb [true, true, true, true, false]) rest) Q ⟨A, []⟩ W := by
  have HD : Hid (∀ (W' : World), Below W.heap.size W W' → Calls Try.prog 23 #[.agg #[.slice ao B.L.length c, .int .u64 B.p0, .int .u64 B.p1, .int .u64 B.p2, .int .u64 B.p3], .agg #[.int .i64 xk, .int .i64 xf, .int .i64 xt, .int .u64 xn]] W' fun e w' => ∃ ax cx, e = .returned (.tuple #[.agg #[.slice ax X.L.length cx, .int .u64 X.p0, .int .u64 X.p1, .int .u64 X.p2, .int .u64 X.p3], .int .i64 er]) ∧ OwnW w' W'.heap.size ax cx X.L ∧ Below W'.heap.size W' w') :=
    Lib.hid (fun W' h => by have := does_any ao B c xk xf xt xn W' (hV.step h).own.rd hw (by omega) hn; rw [hX] at this; exact this)
  have HS : Hid (∀ (w' : World), Below W.heap.size W w' → w'.cell? ⟨b, 0, none⟩ = some (.slice ao B.L.length c) ∧ w'.cell? ⟨b, 1, none⟩ = some (.int .u64 B.p0) ∧ w'.cell? ⟨b, 2, none⟩ = some (.int .u64 B.p1) ∧ w'.cell? ⟨b, 3, none⟩ = some (.int .u64 B.p2) ∧ w'.cell? ⟨b, 4, none⟩ = some (.int .u64 B.p3) ∧ w'.cell? ⟨xp, 0, none⟩ = some (.int .i64 xk) ∧ w'.cell? ⟨xp, 1, none⟩ = some (.int .i64 xf) ∧ w'.cell? ⟨xp, 2, none⟩ = some (.int .i64 xt) ∧ w'.cell? ⟨xp, 3, none⟩ = some (.int .u64 xn)) := Lib.hid (fun W' h => by
    obtain ⟨a0, a1, a2, a3, a4, _⟩ := five (hV.step h).hb
    obtain ⟨h0, h1, h2, h3, _⟩ := four ((h.block _ (lt_of_block hx)).trans hx)
    exact ⟨a0, a1, a2, a3, a4, h0, h1, h2, h3⟩)
  have HC := Lib.hid hC
  have hbz : b < W.heap.size := lt_of_block hV.hb
  have hxz : xp < W.heap.size := lt_of_block hx
  obtain ⟨v, rfl⟩ := hF.open
  clear hC hF hV hx hX hn hw
  obtain ⟨a0, a1, a2, a3, a4, h0, h1, h2, h3⟩ := HS.out _ (Below.refl _ _)
  conv => arg 2; arg 1; whnf
  go_wp2_with fail
  refine (HD.out _ (Below.refl _ _)).mono ?_
  rintro e w5 ⟨ax, cx, rfl, hown, hb⟩
  have HB5 := Lib.hid hb
  have HO5 := Lib.hid (hown.mono hlo)
  clear hb hown
  go_wp2_with fail
  exact HC.out _ _ w5.heap.size ax cx ⟨by simp, rfl, rfl, rfl, rfl, rfl, rfl, rfl, rfl, rfl, rfl, rfl, rfl, rfl, rfl, rfl, rfl, rfl⟩ (HB5.out.alloc HB5.out.size _) ⟨heap_at w5 _ rfl, HO5.out.alloc _⟩

end Go.Proofs.Ytjiffflhedekfaa
end
section
/- BankBack: the move x behind y. -/
namespace Go.Proofs.Ytjiffflhedekfaa
open Go.RowKit

set_option maxRecDepth 100000 in
set_option maxHeartbeats 4000000 in
theorem bbR16 {w W : World} {b xp : Nat} {B X : Bk} {ao : Option Addr} {c : Nat} {xk xf xt xn er : Int} {A : Array Value} {Q : Exit → Act → World → Prop} {rest : Code} {py rs ok pb pc e pz isb pd f p2 f2 hh pi k : Value}
    (hV : Var w W b B ao c) (hlo : w.heap.size ≤ W.heap.size) (hw : B.Wf) (hle : B.L.length ≤ 8) (hx : W.heap[xp]? = some (.cells #[.int .i64 xk, .int .i64 xf, .int .i64 xt, .int .u64 xn] 41 (0, 0))) (hn : W64 xn) (hX : doesR B xk xf xt xn = (X, er))
    (hF : Fb A (.pointer (some ⟨xp, 0, none⟩)) py rs ok pb pc e pz isb pd f p2 f2 (.pointer (some ⟨b, 0, none⟩)) hh pi k)
    (hC : ∀ (A' : Array Value) (W' : World) (bx : Nat) (ax : Option Addr) (cx : Nat), Fb A' (.pointer (some ⟨xp, 0, none⟩)) py rs ok pb pc e pz isb pd f p2 f2 (.pointer (some ⟨b, 0, none⟩)) hh (.pointer (some ⟨bx, 0, none⟩)) (.int .i64 er) → Below W.heap.size W W' → Var w W' bx X ax cx → Code.wp Try.prog rest Q ⟨A', []⟩ W') :
    Code.wp Try.prog (.seq (bb [true, true, true, true, true, true, false]) rest) Q ⟨A, []⟩ W := by
  have HD : Hid (∀ (W' : World), Below W.heap.size W W' → Calls Try.prog 23 #[.agg #[.slice ao B.L.length c, .int .u64 B.p0, .int .u64 B.p1, .int .u64 B.p2, .int .u64 B.p3], .agg #[.int .i64 xk, .int .i64 xf, .int .i64 xt, .int .u64 xn]] W' fun e w' => ∃ ax cx, e = .returned (.tuple #[.agg #[.slice ax X.L.length cx, .int .u64 X.p0, .int .u64 X.p1, .int .u64 X.p2, .int .u64 X.p3], .int .i64 er]) ∧ OwnW w' W'.heap.size ax cx X.L ∧ Below W'.heap.size W' w') :=
    Lib.hid (fun W' h => by have := does_any ao B c xk xf xt xn W' (hV.step h).own.rd hw (by omega) hn; rw [hX] at this; exact this)
  have HS : Hid (∀ (w' : World), Below W.heap.size W w' → w'.cell? ⟨b, 0, none⟩ = some (.slice ao B.L.length c) ∧ w'.cell? ⟨b, 1, none⟩ = some (.int .u64 B.p0) ∧ w'.cell? ⟨b, 2, none⟩ = some (.int .u64 B.p1) ∧ w'.cell? ⟨b, 3, none⟩ = some (.int .u64 B.p2) ∧ w'.cell? ⟨b, 4, none⟩ = some (.int .u64 B.p3) ∧ w'.cell? ⟨xp, 0, none⟩ = some (.int .i64 xk) ∧ w'.cell? ⟨xp, 1, none⟩ = some (.int .i64 xf) ∧ w'.cell? ⟨xp, 2, none⟩ = some (.int .i64 xt) ∧ w'.cell? ⟨xp, 3, none⟩ = some (.int .u64 xn)) := Lib.hid (fun W' h => by
    obtain ⟨a0, a1, a2, a3, a4, _⟩ := five (hV.step h).hb
    obtain ⟨h0, h1, h2, h3, _⟩ := four ((h.block _ (lt_of_block hx)).trans hx)
    exact ⟨a0, a1, a2, a3, a4, h0, h1, h2, h3⟩)
  have HC := Lib.hid hC
  have hbz : b < W.heap.size := lt_of_block hV.hb
  have hxz : xp < W.heap.size := lt_of_block hx
  obtain ⟨v, rfl⟩ := hF.open
  clear hC hF hV hx hX hn hw
  obtain ⟨a0, a1, a2, a3, a4, h0, h1, h2, h3⟩ := HS.out _ (Below.refl _ _)
  conv => arg 2; arg 1; whnf
  go_wp2_with fail
  refine (HD.out _ (Below.refl _ _)).mono ?_
  rintro e w5 ⟨ax, cx, rfl, hown, hb⟩
  have HB5 := Lib.hid hb
  have HO5 := Lib.hid (hown.mono hlo)
  clear hb hown
  go_wp2_with fail
  exact HC.out _ _ w5.heap.size ax cx ⟨by simp, rfl, rfl, rfl, rfl, rfl, rfl, rfl, rfl, rfl, rfl, rfl, rfl, rfl, rfl, rfl, rfl, rfl⟩ (HB5.out.alloc HB5.out.size _) ⟨heap_at w5 _ rfl, HO5.out.alloc _⟩

end Go.Proofs.Ytjiffflhedekfaa
end
section
/- BankBack: the small parts. -/
namespace Go.Proofs.Ytjiffflhedekfaa
open Go.RowKit

set_option maxRecDepth 100000 in
set_option maxHeartbeats 4000000 in
theorem bbR5_err {W : World} {er : Int} {A : Array Value} {Q : Exit → Act → World → Prop} {rest : Code} {px py rs ok pb pc pz isb pd f p2 f2 pg hh pi k : Value}
    (he : er ≠ 0) (hF : Fb A px py rs ok pb pc (.int .i64 er) pz isb pd f p2 f2 pg hh pi k)
    (hC : ∀ (A' : Array Value), Fb A' px py ok ok pb pc (.int .i64 er) pz isb pd f p2 f2 pg hh pi k → Q .ret ⟨A', []⟩ W) :
    Code.wp Try.prog (.seq (bb [true, false]) rest) Q ⟨A, []⟩ W := by
  have HC := Lib.hid hC
  have hd : decide (er = 0) = false := by simp [he]
  obtain ⟨v, rfl⟩ := hF.open
  clear hC hF
  conv => arg 2; arg 1; whnf
  go_wp2_with fail
  exact HC.out _ ⟨by simp, rfl, rfl, rfl, rfl, rfl, rfl, rfl, rfl, rfl, rfl, rfl, rfl, rfl, rfl, rfl, rfl, rfl⟩
set_option maxRecDepth 100000 in
set_option maxHeartbeats 4000000 in
theorem bbR5_ok {W : World} {A : Array Value} {Q : Exit → Act → World → Prop} {rest : Code} {px py rs ok pb pc pz isb pd f p2 f2 pg hh pi k : Value}
    (hF : Fb A px py rs ok pb pc (.int .i64 0) pz isb pd f p2 f2 pg hh pi k)
    (hC : ∀ (A' : Array Value), Fb A' px py rs ok pb pc (.int .i64 0) pz isb pd f p2 f2 pg hh pi k → Code.wp Try.prog rest Q ⟨A', []⟩ W) :
    Code.wp Try.prog (.seq (bb [true, false]) rest) Q ⟨A, []⟩ W := by
  have HC := Lib.hid hC
  obtain ⟨v, rfl⟩ := hF.open
  clear hC hF
  conv => arg 2; arg 1; whnf
  go_wp2_with fail
  exact HC.out _ ⟨by simp, rfl, rfl, rfl, rfl, rfl, rfl, rfl, rfl, rfl, rfl, rfl, rfl, rfl, rfl, rfl, rfl, rfl⟩
set_option maxRecDepth 100000 in
set_option maxHeartbeats 4000000 in
theorem bbR7 {W : World} {xp : Nat} {xk xf xt xn za zb zc zd : Int} {z : Bool} {A : Array Value} {Q : Exit → Act → World → Prop} {rest : Code} {py rs ok pb pc e pz isb pd f p2 f2 pg hh pi k : Value}
    (hx : W.heap[xp]? = some (.cells #[.int .i64 xk, .int .i64 xf, .int .i64 xt, .int .u64 xn] 41 (0, 0))) (hk : 0 ≤ xk ∧ xk ≤ 4) (hb : backR xk xf xt xn = ((za, zb, zc, zd), z))
    (hF : Fb A (.pointer (some ⟨xp, 0, none⟩)) py rs ok pb pc e pz isb pd f p2 f2 pg hh pi k)
    (hC : ∀ (A' : Array Value) (W' : World) (zp : Nat), Fb A' (.pointer (some ⟨xp, 0, none⟩)) py rs ok pb pc e (.pointer (some ⟨zp, 0, none⟩)) (.bool z) pd f p2 f2 pg hh pi k → Below W.heap.size W W' → W'.heap[zp]? = some (.cells #[.int .i64 za, .int .i64 zb, .int .i64 zc, .int .u64 zd] 41 (0, 0)) → Code.wp Try.prog rest Q ⟨A', []⟩ W') :
    Code.wp Try.prog (.seq (bb [true, true, false, false]) rest) Q ⟨A, []⟩ W := by
  have HC := Lib.hid hC
  have HD := Lib.hid (back_any xk xf xt xn W hk)
  have HB := Lib.hid hb
  obtain ⟨h0, h1, h2, h3, _⟩ := four hx
  obtain ⟨v, rfl⟩ := hF.open
  clear hC hF hx hk hb
  conv => arg 2; arg 1; whnf
  go_wp2_with fail
  refine HD.out.mono ?_
  rintro e w5 ⟨za', zb', zc', zd', z', hz, rfl, hb⟩
  rw [HB.out] at hz
  simp only [Prod.mk.injEq] at hz
  obtain ⟨⟨rfl, rfl, rfl, rfl⟩, rfl⟩ := hz
  have HB5 := Lib.hid hb
  clear hb h0 h1 h2 h3
  go_wp2_with fail
  exact HC.out _ _ w5.heap.size ⟨by simp, rfl, rfl, rfl, rfl, rfl, rfl, rfl, rfl, rfl, rfl, rfl, rfl, rfl, rfl, rfl, rfl, rfl⟩ (HB5.out.alloc HB5.out.size _) (heap_at w5 _ rfl)
set_option maxRecDepth 100000 in
set_option maxHeartbeats 4000000 in
theorem bbR8_no {W : World} {A : Array Value} {Q : Exit → Act → World → Prop} {px py rs ok pb pc e pz pd f p2 f2 pg hh pi k : Value}
    (hF : Fb A px py rs ok pb pc e pz (.bool false) pd f p2 f2 pg hh pi k)
    (hC : ∀ (A' : Array Value), Fb A' px py rs ok pb pc e pz (.bool false) pd f p2 f2 pg hh pi k → Q .normal ⟨A', []⟩ W) :
    Code.wp Try.prog (bb [true, true, false, true]) Q ⟨A, []⟩ W := by
  have HC := Lib.hid hC
  obtain ⟨v, rfl⟩ := hF.open
  clear hC hF
  conv => arg 2; whnf
  go_wp2_with fail
  exact HC.out _ ⟨by simp, rfl, rfl, rfl, rfl, rfl, rfl, rfl, rfl, rfl, rfl, rfl, rfl, rfl, rfl, rfl, rfl, rfl⟩
set_option maxRecDepth 100000 in
set_option maxHeartbeats 4000000 in
theorem bbR8_yes {W : World} {A : Array Value} {Q : Exit → Act → World → Prop} {rest : Code} {px py rs ok pb pc e pz pd f p2 f2 pg hh pi k : Value}
    (hF : Fb A px py rs ok pb pc e pz (.bool true) pd f p2 f2 pg hh pi k)
    (hC : ∀ (A' : Array Value), Fb A' px py rs ok pb pc e pz (.bool true) pd f p2 f2 pg hh pi k → A'[44]? = some (.bool true) → Code.wp Try.prog rest Q ⟨A', []⟩ W) :
    Code.wp Try.prog (.seq (bb [true, true, false, true, false]) rest) Q ⟨A, []⟩ W := by
  have HC := Lib.hid hC
  obtain ⟨v, rfl⟩ := hF.open
  clear hC hF
  conv => arg 2; arg 1; whnf
  go_wp2_with fail
  exact HC.out _ ⟨by simp, rfl, rfl, rfl, rfl, rfl, rfl, rfl, rfl, rfl, rfl, rfl, rfl, rfl, rfl, rfl, rfl, rfl⟩ rfl
set_option maxRecDepth 100000 in
set_option maxHeartbeats 4000000 in
theorem bbR10 {w W : World} {b bx : Nat} {B : Bk} {ao ax : Option Addr} {c cx : Nat} {A : Array Value} {Q : Exit → Act → World → Prop} {px py rs ok pc e pz isb p2 f2 pg hh pi k : Value}
    (hV : Var w W b B ao c) (hX : Var w W bx B ax cx) (hle : B.L.length ≤ 8)
    (hF : Fb A px py rs ok (.pointer (some ⟨b, 0, none⟩)) pc e pz isb (.pointer (some ⟨bx, 0, none⟩)) (.int .i64 0) p2 f2 pg hh pi k)
    (hC : ∀ (A' : Array Value) (W' : World), Fb A' px py rs ok (.pointer (some ⟨b, 0, none⟩)) pc e pz isb (.pointer (some ⟨bx, 0, none⟩)) (.int .i64 0) p2 f2 pg hh pi k → Below W.heap.size W W' → Q .normal ⟨A', []⟩ W') :
    Code.wp Try.prog (bb [true, true, false, true, true, false, true]) Q ⟨A, []⟩ W := by
  have HC := Lib.hid hC
  have HD := Lib.hid (sameBank_any ax ao B B cx c W hX.own.rd hV.own.rd (by omega) (by omega))
  rw [show decide (B = B) = true by simp] at HD
  obtain ⟨a0, a1, a2, a3, a4, _⟩ := five hV.hb
  obtain ⟨b0, b1, b2, b3, b4, _⟩ := five hX.hb
  obtain ⟨v, rfl⟩ := hF.open
  clear hC hF hV hX
  conv => arg 2; whnf
  go_wp2_with fail
  refine HD.out.mono ?_
  rintro e w5 ⟨rfl, hb⟩
  have HB5 := Lib.hid hb
  clear hb
  go_wp2_with fail
  exact HC.out _ _ ⟨by simp, rfl, rfl, rfl, rfl, rfl, rfl, rfl, rfl, rfl, rfl, rfl, rfl, rfl, rfl, rfl, rfl, rfl⟩ HB5.out
set_option maxRecDepth 100000 in
set_option maxHeartbeats 4000000 in
theorem bbR14_a {W : World} {er er2 : Int} {A : Array Value} {Q : Exit → Act → World → Prop} {rest : Code} {px py rs ok pb pc e pz isb pd f p2 pg pi k : Value}
    (he : er ≠ 0) (hF : Fb A px py rs ok pb pc e pz isb pd f p2 (.int .i64 er) pg (.int .i64 er2) pi k)
    (hC : ∀ (A' : Array Value), Fb A' px py ok ok pb pc e pz isb pd f p2 (.int .i64 er) pg (.int .i64 er2) pi k → Q .ret ⟨A', []⟩ W) :
    Code.wp Try.prog (.seq (bb [true, true, true, true, true, false]) rest) Q ⟨A, []⟩ W := by
  have HC := Lib.hid hC
  have hd : decide (er = 0) = false := by simp [he]
  obtain ⟨v, rfl⟩ := hF.open
  clear hC hF
  conv => arg 2; arg 1; whnf
  go_wp2_with fail
  exact HC.out _ ⟨by simp, rfl, rfl, rfl, rfl, rfl, rfl, rfl, rfl, rfl, rfl, rfl, rfl, rfl, rfl, rfl, rfl, rfl⟩
set_option maxRecDepth 100000 in
set_option maxHeartbeats 4000000 in
theorem bbR14_b {W : World} {er2 : Int} {A : Array Value} {Q : Exit → Act → World → Prop} {rest : Code} {px py rs ok pb pc e pz isb pd f p2 pg pi k : Value}
    (he : er2 ≠ 0) (hF : Fb A px py rs ok pb pc e pz isb pd f p2 (.int .i64 0) pg (.int .i64 er2) pi k)
    (hC : ∀ (A' : Array Value), Fb A' px py ok ok pb pc e pz isb pd f p2 (.int .i64 0) pg (.int .i64 er2) pi k → Q .ret ⟨A', []⟩ W) :
    Code.wp Try.prog (.seq (bb [true, true, true, true, true, false]) rest) Q ⟨A, []⟩ W := by
  have HC := Lib.hid hC
  have hd : decide (er2 = 0) = false := by simp [he]
  obtain ⟨v, rfl⟩ := hF.open
  clear hC hF
  conv => arg 2; arg 1; whnf
  go_wp2_with fail
  exact HC.out _ ⟨by simp, rfl, rfl, rfl, rfl, rfl, rfl, rfl, rfl, rfl, rfl, rfl, rfl, rfl, rfl, rfl, rfl, rfl⟩
set_option maxRecDepth 100000 in
set_option maxHeartbeats 4000000 in
theorem bbR14_ok {W : World} {A : Array Value} {Q : Exit → Act → World → Prop} {rest : Code} {px py rs ok pb pc e pz isb pd f p2 pg pi k : Value}
    (hF : Fb A px py rs ok pb pc e pz isb pd f p2 (.int .i64 0) pg (.int .i64 0) pi k)
    (hC : ∀ (A' : Array Value), Fb A' px py rs ok pb pc e pz isb pd f p2 (.int .i64 0) pg (.int .i64 0) pi k → Code.wp Try.prog rest Q ⟨A', []⟩ W) :
    Code.wp Try.prog (.seq (bb [true, true, true, true, true, false]) rest) Q ⟨A, []⟩ W := by
  have HC := Lib.hid hC
  obtain ⟨v, rfl⟩ := hF.open
  clear hC hF
  conv => arg 2; arg 1; whnf
  go_wp2_with fail
  exact HC.out _ ⟨by simp, rfl, rfl, rfl, rfl, rfl, rfl, rfl, rfl, rfl, rfl, rfl, rfl, rfl, rfl, rfl, rfl, rfl⟩
set_option maxRecDepth 100000 in
set_option maxHeartbeats 4000000 in
theorem bbR17_err {W : World} {er : Int} {A : Array Value} {Q : Exit → Act → World → Prop} {px py rs pb pc e pz isb pd f p2 f2 pg hh pi : Value}
    (he : er ≠ 0) (hF : Fb A px py rs (.bool true) pb pc e pz isb pd f p2 f2 pg hh pi (.int .i64 er))
    (hC : ∀ (A' : Array Value), Fb A' px py (.bool true) (.bool true) pb pc e pz isb pd f p2 f2 pg hh pi (.int .i64 er) → Q .ret ⟨A', []⟩ W) :
    Code.wp Try.prog (bb [true, true, true, true, true, true, true]) Q ⟨A, []⟩ W := by
  have HC := Lib.hid hC
  have hd : decide (er = 0) = false := by simp [he]
  obtain ⟨v, rfl⟩ := hF.open
  clear hC hF
  conv => arg 2; whnf
  go_wp2_with fail
  exact HC.out _ ⟨by simp, rfl, rfl, rfl, rfl, rfl, rfl, rfl, rfl, rfl, rfl, rfl, rfl, rfl, rfl, rfl, rfl, rfl⟩
set_option maxRecDepth 100000 in
set_option maxHeartbeats 4000000 in
theorem bbR17_ok {w W : World} {b bx : Nat} {B : Bk} {ao ax : Option Addr} {c cx : Nat} {A : Array Value} {Q : Exit → Act → World → Prop} {px py rs pb pc e pz isb pd f f2 pg hh : Value}
    (hV : Var w W b B ao c) (hX : Var w W bx B ax cx) (hle : B.L.length ≤ 8)
    (hF : Fb A px py rs (.bool true) pb pc e pz isb pd f (.pointer (some ⟨b, 0, none⟩)) f2 pg hh (.pointer (some ⟨bx, 0, none⟩)) (.int .i64 0))
    (hC : ∀ (A' : Array Value) (W' : World), Fb A' px py (.bool true) (.bool true) pb pc e pz isb pd f (.pointer (some ⟨b, 0, none⟩)) f2 pg hh (.pointer (some ⟨bx, 0, none⟩)) (.int .i64 0) → Below W.heap.size W W' → Q .ret ⟨A', []⟩ W') :
    Code.wp Try.prog (bb [true, true, true, true, true, true, true]) Q ⟨A, []⟩ W := by
  have HC := Lib.hid hC
  have HD := Lib.hid (sameBank_any ax ao B B cx c W hX.own.rd hV.own.rd (by omega) (by omega))
  rw [show decide (B = B) = true by simp] at HD
  obtain ⟨a0, a1, a2, a3, a4, _⟩ := five hV.hb
  obtain ⟨b0, b1, b2, b3, b4, _⟩ := five hX.hb
  obtain ⟨v, rfl⟩ := hF.open
  clear hC hF hV hX
  conv => arg 2; whnf
  go_wp2_with fail
  refine HD.out.mono ?_
  rintro e w5 ⟨rfl, hb⟩
  have HB5 := Lib.hid hb
  clear hb
  go_wp2_with fail
  exact HC.out _ _ ⟨by simp, rfl, rfl, rfl, rfl, rfl, rfl, rfl, rfl, rfl, rfl, rfl, rfl, rfl, rfl, rfl, rfl, rfl⟩ HB5.out
end Go.Proofs.Ytjiffflhedekfaa
end
section
/- BankBack: both moves are made near. -/
namespace Go.Proofs.Ytjiffflhedekfaa
open Go.RowKit

abbrev set4 (w : World) (b : Nat) (v0 v1 v2 v3 : Value) : World :=
  (((w.setCell ⟨b, 0, none⟩ v0).setCell ⟨b, 1, none⟩ v1).setCell ⟨b, 2, none⟩ v2).setCell ⟨b, 3, none⟩ v3
theorem below_set4 {B : Nat} {a w : World} (h : Below B a w) {b : Nat} (hb : B ≤ b) (v0 v1 v2 v3 : Value) : Below B a (set4 w b v0 v1 v2 v3) :=
  (((h.setCell (p := ⟨b, 0, none⟩) hb v0).setCell (p := ⟨b, 1, none⟩) hb v1).setCell (p := ⟨b, 2, none⟩) hb v2).setCell (p := ⟨b, 3, none⟩) hb v3
theorem size_set4 (w : World) (b : Nat) (v0 v1 v2 v3 : Value) : (set4 w b v0 v1 v2 v3).heap.size = w.heap.size := by simp [World.setCell]
theorem heap_set4 {w : World} {b : Nat} {u0 u1 u2 u3 : Value} {t : TypeId} (h : w.heap[b]? = some (.cells #[u0, u1, u2, u3] t (0, 0))) (v0 v1 v2 v3 : Value) :
    (set4 w b v0 v1 v2 v3).heap[b]? = some (.cells #[v0, v1, v2, v3] t (0, 0)) := by
  simp [set4, World.setCell, Array.getElem?_modify, h]
theorem heap_set4_other (w : World) {b k : Nat} (hk : k ≠ b) (v0 v1 v2 v3 : Value) : (set4 w b v0 v1 v2 v3).heap[k]? = w.heap[k]? := by
  simp only [set4]
  rw [Below.heap_setCell _ _ _ _ hk, Below.heap_setCell _ _ _ _ hk, Below.heap_setCell _ _ _ _ hk, Below.heap_setCell _ _ _ _ hk]
theorem OwnW.set4 {w : World} {base : Nat} {ao : Option Addr} {cap : Nat} {l : List Int} (h : OwnW w base ao cap l) {b : Nat} (ha : ∀ p, ao = Option.some p → p.block ≠ b) (v0 v1 v2 v3 : Value) : OwnW (set4 w b v0 v1 v2 v3) base ao cap l :=
  (((h.setCell (a := ⟨b, 0, none⟩) ha v0).setCell (a := ⟨b, 1, none⟩) ha v1).setCell (a := ⟨b, 2, none⟩) ha v2).setCell (a := ⟨b, 3, none⟩) ha v3
set_option maxRecDepth 100000 in
set_option maxHeartbeats 4000000 in
theorem bbR3 {w W : World} {b xp yp : Nat} {B : Bk} {ao : Option Addr} {c : Nat} {xk xf xt xn yk yf yt yn : Int} {A : Array Value} {Q : Exit → Act → World → Prop} {rest : Code} {rs ok pc e pz isb pd f p2 f2 pg hh pi k : Value}
    (hBW : Below w.heap.size w W) (hV : Var w W b B ao c) (hle : B.L.length ≤ 8) (hx : W.heap[xp]? = some (.cells #[.int .i64 xk, .int .i64 xf, .int .i64 xt, .int .u64 xn] 41 (0, 0))) (hy : W.heap[yp]? = some (.cells #[.int .i64 yk, .int .i64 yf, .int .i64 yt, .int .u64 yn] 41 (0, 0)))
    (hxy : xp ≠ yp) (hxl : w.heap.size ≤ xp) (hyl : w.heap.size ≤ yp) (x1 : I64 xk) (x2 : I64 xf) (x3 : I64 xt) (x4 : W64 xn) (y1 : I64 yk) (y2 : I64 yf) (y3 : I64 yt) (y4 : W64 yn)
    (hF : Fb A (.pointer (some ⟨xp, 0, none⟩)) (.pointer (some ⟨yp, 0, none⟩)) rs ok (.pointer (some ⟨b, 0, none⟩)) pc e pz isb pd f p2 f2 pg hh pi k)
    (hC : ∀ (A' : Array Value) (W' : World) (zk zf zt zn uk uf ut un : Int), Fb A' (.pointer (some ⟨xp, 0, none⟩)) (.pointer (some ⟨yp, 0, none⟩)) rs ok (.pointer (some ⟨b, 0, none⟩)) pc e pz isb pd f p2 f2 pg hh pi k → Below w.heap.size w W' → Var w W' b B ao c → W'.heap[xp]? = some (.cells #[.int .i64 zk, .int .i64 zf, .int .i64 zt, .int .u64 zn] 41 (0, 0)) → W'.heap[yp]? = some (.cells #[.int .i64 uk, .int .i64 uf, .int .i64 ut, .int .u64 un] 41 (0, 0)) →
      (0 ≤ zk ∧ zk ≤ 4) → W64 zn → (0 ≤ uk ∧ uk ≤ 4) → W64 un → Code.wp Try.prog rest Q ⟨A', []⟩ W') :
    Code.wp Try.prog (.seq (nav (Try.f7.body.getD .skip) [true, true, true, false]) rest) Q ⟨A, []⟩ W := by
  have HNx := Lib.hid (fun W => near_any ao B c xk xf xt xn W (by omega) x1 x2 x3 x4)
  have HNy := Lib.hid (fun W => near_any ao B c yk yf yt yn W (by omega) y1 y2 y3 y4)
  have HS : Hid (∀ (w' : World), w'.heap[b]? = W.heap[b]? → w'.cell? ⟨b, 0, none⟩ = some (.slice ao B.L.length c) ∧ w'.cell? ⟨b, 1, none⟩ = some (.int .u64 B.p0) ∧ w'.cell? ⟨b, 2, none⟩ = some (.int .u64 B.p1) ∧ w'.cell? ⟨b, 3, none⟩ = some (.int .u64 B.p2) ∧ w'.cell? ⟨b, 4, none⟩ = some (.int .u64 B.p3)) := Lib.hid (fun W' h => by
    obtain ⟨a0, a1, a2, a3, a4, _⟩ := five (h.trans hV.hb)
    exact ⟨a0, a1, a2, a3, a4⟩)
  have HC := Lib.hid hC
  have HV := Lib.hid hV
  have HBW := Lib.hid hBW
  have HX := Lib.hid hx
  have HY := Lib.hid hy
  have HDr : Hid (W.drew.heap[b]? = W.heap[b]?) := Lib.hid rfl
  have hbz : b < W.heap.size := lt_of_block hV.hb
  have hxz : xp < W.heap.size := lt_of_block hx
  have hyz : yp < W.heap.size := lt_of_block hy
  have hbx : b ≠ xp := fun e => by subst e; have := hV.hb.symm.trans hx; simp at this
  have hby : b ≠ yp := fun e => by subst e; have := hV.hb.symm.trans hy; simp at this
  obtain ⟨v, rfl⟩ := hF.open
  obtain ⟨c0, c1, c2, c3, _⟩ := four hx
  obtain ⟨d0, d1, d2, d3, _⟩ := four hy
  clear hC hF hV hBW hx hy x1 x2 x3 x4 y1 y2 y3 y4
  conv => arg 2; arg 1; whnf
  refine wp_seq_k (fun KK hK0 => ?_)
  refine wp_region_noPanic ?_
  refine wp_region_held_drew (S := (fun w' => w'.cell? ⟨b, 0, none⟩ = some (.slice ao B.L.length c) ∧ w'.cell? ⟨b, 1, none⟩ = some (.int .u64 B.p0) ∧ w'.cell? ⟨b, 2, none⟩ = some (.int .u64 B.p1) ∧ w'.cell? ⟨b, 3, none⟩ = some (.int .u64 B.p2) ∧ w'.cell? ⟨b, 4, none⟩ = some (.int .u64 B.p3))) (by kernel_rfl) ?_ (fun hHeld => ?_)
  · (try dsimp only); ((refine HS.out _ ?_; first | with_reducible exact HB5.out.block _ hbz | with_reducible exact HB4.out.block _ hbz | with_reducible exact (heap_set4_other w5 hbx (.int .i64 zk) (.int .i64 zf) (.int .i64 zt) (.int .u64 zn)).trans (HB5.out.block _ hbz) | with_reducible exact (heap_set4_other (set4 w5 xp (.int .i64 zk) (.int .i64 zf) (.int .i64 zt) (.int .u64 zn)) hby (.int .i64 uk) (.int .i64 uf) (.int .i64 ut) (.int .u64 un)).trans ((heap_set4_other w5 hbx _ _ _ _).trans (HB5.out.block _ hbz)) | with_reducible exact HDr.out))
  refine wpAnyH_take (i := 0) (oi := { dst := some 24, op := Go.Op.load 26 (Go.Operand.tmp 8), type := 26, pos := "outright.go:130", after := #[], guard := none }) (v := .agg #[.slice ao B.L.length c, .int .u64 B.p0, .int .u64 B.p1, .int .u64 B.p2, .int .u64 B.p3]) rfl (by kernel_rfl) (by kernel_rfl) (by kernel_rfl) (fun _ _ _ h => h) (Or.inl ⟨by rfl, ?_⟩) (by assumption) ?_
  · intro w hSw; (try dsimp only at hSw); go_simp
  (try simp only [Act.put, List.setIfInBounds_toArray, List.set_cons_zero, List.set_cons_succ])
  refine wpAnyH_take (i := 3) (oi := { dst := some 27, op := Go.Op.load 26 (Go.Operand.tmp 8), type := 26, pos := "outright.go:130", after := #[], guard := none }) (v := .agg #[.slice ao B.L.length c, .int .u64 B.p0, .int .u64 B.p1, .int .u64 B.p2, .int .u64 B.p3]) rfl (by kernel_rfl) (by kernel_rfl) (by kernel_rfl) (fun _ _ _ h => h) (Or.inl ⟨by rfl, ?_⟩) (by assumption) ?_
  · intro w hSw; (try dsimp only at hSw); go_simp
  (try simp only [Act.put, List.setIfInBounds_toArray, List.set_cons_zero, List.set_cons_succ])
  refine wpAnyH_ready (rs := [1, 4]) (by kernel_rfl) (by simp) ?_
  refine AllReadyH.cons (o := { dst := some 25, op := Go.Op.load 41 (Go.Operand.tmp 4), type := 41, pos := "outright.go:130", after := #[], guard := none }) rfl (fun K hK => ?_) ?_
  · go_simp
    refine hK.out _ _ ?_ (fun hHeld => ?_)
    · (try dsimp only); ((refine HS.out _ ?_; first | with_reducible exact HB5.out.block _ hbz | with_reducible exact HB4.out.block _ hbz | with_reducible exact (heap_set4_other w5 hbx (.int .i64 zk) (.int .i64 zf) (.int .i64 zt) (.int .u64 zn)).trans (HB5.out.block _ hbz) | with_reducible exact (heap_set4_other (set4 w5 xp (.int .i64 zk) (.int .i64 zf) (.int .i64 zt) (.int .u64 zn)) hby (.int .i64 uk) (.int .i64 uf) (.int .i64 ut) (.int .u64 un)).trans ((heap_set4_other w5 hbx _ _ _ _).trans (HB5.out.block _ hbz)) | with_reducible exact HDr.out))
    clear hK K
    (try simp only [Act.put, List.setIfInBounds_toArray, List.set_cons_zero, List.set_cons_succ])
    refine wpAnyH_ready (rs := [2, 4]) (by kernel_rfl) (by simp) ?_
    refine AllReadyH.cons (o := { dst := some 26, op := Go.Op.call { callee := Go.Callee.value (Go.Operand.func 39), args := #[Go.Operand.tmp 24, Go.Operand.tmp 25], argTypes := #[26, 41] }, type := 41, pos := "outright.go:130", after := #[{ on := 0, ground := Go.Ground.data }, { on := 1, ground := Go.Ground.data }], guard := none }) rfl (fun K hK => ?_) ?_
    · go_simp
      refine (HNx.out _).mono ?_; rintro e w4 ⟨zk, zf, zt, zn, rfl, hk, hn, hf, ht, hb⟩; have HB4 : Hid (Below W.heap.size W w4) := Lib.hid ((Below.refl W.heap.size W).drew.trans hb); have HZ := Lib.hid (And.intro hk hn); obtain ⟨d0, d1, d2, d3, _⟩ := four ((HB4.out.block _ hyz).trans HY.out); clear hb hk hn hf ht
      go_wp2_with fail
      refine hK.out _ _ ?_ (fun hHeld => ?_)
      · (try dsimp only); ((refine HS.out _ ?_; first | with_reducible exact HB5.out.block _ hbz | with_reducible exact HB4.out.block _ hbz | with_reducible exact (heap_set4_other w5 hbx (.int .i64 zk) (.int .i64 zf) (.int .i64 zt) (.int .u64 zn)).trans (HB5.out.block _ hbz) | with_reducible exact (heap_set4_other (set4 w5 xp (.int .i64 zk) (.int .i64 zf) (.int .i64 zt) (.int .u64 zn)) hby (.int .i64 uk) (.int .i64 uf) (.int .i64 ut) (.int .u64 un)).trans ((heap_set4_other w5 hbx _ _ _ _).trans (HB5.out.block _ hbz)) | with_reducible exact HDr.out))
      clear hK K
      (try simp only [Act.put, List.setIfInBounds_toArray, List.set_cons_zero, List.set_cons_succ])
      refine wpAnyH_ready (rs := [4]) (by kernel_rfl) (by simp) ?_
      refine AllReadyH.cons (o := { dst := some 28, op := Go.Op.load 41 (Go.Operand.tmp 5), type := 41, pos := "outright.go:130", after := #[], guard := none }) rfl (fun K hK => ?_) ?_
      · go_simp
        refine hK.out _ _ ?_ (fun hHeld => ?_)
        · (try dsimp only); ((refine HS.out _ ?_; first | with_reducible exact HB5.out.block _ hbz | with_reducible exact HB4.out.block _ hbz | with_reducible exact (heap_set4_other w5 hbx (.int .i64 zk) (.int .i64 zf) (.int .i64 zt) (.int .u64 zn)).trans (HB5.out.block _ hbz) | with_reducible exact (heap_set4_other (set4 w5 xp (.int .i64 zk) (.int .i64 zf) (.int .i64 zt) (.int .u64 zn)) hby (.int .i64 uk) (.int .i64 uf) (.int .i64 ut) (.int .u64 un)).trans ((heap_set4_other w5 hbx _ _ _ _).trans (HB5.out.block _ hbz)) | with_reducible exact HDr.out))
        clear hK K
        (try simp only [Act.put, List.setIfInBounds_toArray, List.set_cons_zero, List.set_cons_succ])
        refine wpAnyH_ready (rs := [5]) (by kernel_rfl) (by simp) ?_
        refine AllReadyH.cons (o := { dst := some 29, op := Go.Op.call { callee := Go.Callee.value (Go.Operand.func 39), args := #[Go.Operand.tmp 27, Go.Operand.tmp 28], argTypes := #[26, 41] }, type := 41, pos := "outright.go:130", after := #[{ on := 3, ground := Go.Ground.data }, { on := 4, ground := Go.Ground.data }, { on := 2, ground := Go.Ground.chain }], guard := none }) rfl (fun K hK => ?_) ?_
        · go_simp
          refine (HNy.out _).mono ?_; rintro e w5 ⟨uk, uf, ut, un, rfl, hk, hn, hf, ht, hb⟩; have HB5 : Hid (Below W.heap.size W w5) := Lib.hid (HB4.out.trans (hb.mono HB4.out.size)); have HU := Lib.hid (And.intro hk hn); have hx5 : xp < w5.heap.size := Nat.lt_of_lt_of_le hxz HB5.out.size; have hy5 : yp < w5.heap.size := Nat.lt_of_lt_of_le hyz HB5.out.size; have HX5 := Lib.hid ((HB5.out.block _ hxz).trans HX.out); have HY5 := Lib.hid ((HB5.out.block _ hyz).trans HY.out); obtain ⟨c0, c1, c2, c3, _⟩ := four HX5.out; obtain ⟨d0, d1, d2, d3, _⟩ := four HY5.out; obtain ⟨g0, g1, g2, g3, _⟩ := four ((heap_set4_other w5 hxy.symm (.int .i64 zk) (.int .i64 zf) (.int .i64 zt) (.int .u64 zn)).trans HY5.out); clear hb hk hn hf ht
          go_wp2_with fail
          refine hK.out _ _ ?_ (fun hHeld => ?_)
          · (try dsimp only); ((refine HS.out _ ?_; first | with_reducible exact HB5.out.block _ hbz | with_reducible exact HB4.out.block _ hbz | with_reducible exact (heap_set4_other w5 hbx (.int .i64 zk) (.int .i64 zf) (.int .i64 zt) (.int .u64 zn)).trans (HB5.out.block _ hbz) | with_reducible exact (heap_set4_other (set4 w5 xp (.int .i64 zk) (.int .i64 zf) (.int .i64 zt) (.int .u64 zn)) hby (.int .i64 uk) (.int .i64 uf) (.int .i64 ut) (.int .u64 un)).trans ((heap_set4_other w5 hbx _ _ _ _).trans (HB5.out.block _ hbz)) | with_reducible exact HDr.out))
          clear hK K
          (try simp only [Act.put, List.setIfInBounds_toArray, List.set_cons_zero, List.set_cons_succ])
          refine wpAnyH_ready (rs := [6]) (by kernel_rfl) (by simp) ?_
          refine AllReadyH.cons (o := { dst := none, op := Go.Op.store 41 (Go.Operand.tmp 4) (Go.Operand.tmp 26), type := 0, pos := "outright.go:130", after := #[{ on := 2, ground := Go.Ground.data }, { on := 5, ground := Go.Ground.chain }, { on := 0, ground := Go.Ground.phase }, { on := 1, ground := Go.Ground.phase }, { on := 2, ground := Go.Ground.phase }, { on := 3, ground := Go.Ground.textOnly Go.Departure.lateStores }, { on := 4, ground := Go.Ground.textOnly Go.Departure.lateStores }, { on := 5, ground := Go.Ground.textOnly Go.Departure.lateStoresUnsure }], guard := none }) rfl (fun K hK => ?_) ?_
          · go_simp
            (try go_wp2_with fail)
            refine hK.out _ _ ?_ (fun hHeld => ?_)
            · (try dsimp only); ((refine HS.out _ ?_; first | with_reducible exact HB5.out.block _ hbz | with_reducible exact HB4.out.block _ hbz | with_reducible exact (heap_set4_other w5 hbx (.int .i64 zk) (.int .i64 zf) (.int .i64 zt) (.int .u64 zn)).trans (HB5.out.block _ hbz) | with_reducible exact (heap_set4_other (set4 w5 xp (.int .i64 zk) (.int .i64 zf) (.int .i64 zt) (.int .u64 zn)) hby (.int .i64 uk) (.int .i64 uf) (.int .i64 ut) (.int .u64 un)).trans ((heap_set4_other w5 hbx _ _ _ _).trans (HB5.out.block _ hbz)) | with_reducible exact HDr.out))
            clear hK K
            (try simp only [Act.put, List.setIfInBounds_toArray, List.set_cons_zero, List.set_cons_succ])
            refine wpAnyH_ready (rs := [7]) (by kernel_rfl) (by simp) ?_
            refine AllReadyH.cons (o := { dst := none, op := Go.Op.store 41 (Go.Operand.tmp 5) (Go.Operand.tmp 29), type := 0, pos := "outright.go:130", after := #[{ on := 5, ground := Go.Ground.data }, { on := 6, ground := Go.Ground.chain }, { on := 0, ground := Go.Ground.phase }, { on := 1, ground := Go.Ground.phase }, { on := 2, ground := Go.Ground.phase }, { on := 3, ground := Go.Ground.phase }, { on := 4, ground := Go.Ground.phase }, { on := 5, ground := Go.Ground.phase }, { on := 6, ground := Go.Ground.phase }], guard := none }) rfl (fun K hK => ?_) ?_
            · go_simp
              (try go_wp2_with fail)
              refine hK.out _ _ ?_ (fun hHeld => ?_)
              · (try dsimp only); ((refine HS.out _ ?_; first | with_reducible exact HB5.out.block _ hbz | with_reducible exact HB4.out.block _ hbz | with_reducible exact (heap_set4_other w5 hbx (.int .i64 zk) (.int .i64 zf) (.int .i64 zt) (.int .u64 zn)).trans (HB5.out.block _ hbz) | with_reducible exact (heap_set4_other (set4 w5 xp (.int .i64 zk) (.int .i64 zf) (.int .i64 zt) (.int .u64 zn)) hby (.int .i64 uk) (.int .i64 uf) (.int .i64 ut) (.int .u64 un)).trans ((heap_set4_other w5 hbx _ _ _ _).trans (HB5.out.block _ hbz)) | with_reducible exact HDr.out))
              clear hK K
              (try simp only [Act.put, List.setIfInBounds_toArray, List.set_cons_zero, List.set_cons_succ])
              refine wpAnyH_done (by kernel_rfl) ?_ _
              refine NoPanic.normal ?_
              show KK _ _
              refine hK0 _ _ ?_
              exact HC.out _ _ zk zf zt zn uk uf ut un ⟨by simp, rfl, rfl, rfl, rfl, rfl, rfl, rfl, rfl, rfl, rfl, rfl, rfl, rfl, rfl, rfl, rfl, rfl⟩ (below_set4 (below_set4 (HBW.out.trans (HB5.out.mono HBW.out.size)) hxl _ _ _ _) hyl _ _ _ _) ⟨(heap_set4_other _ hby _ _ _ _).trans ((heap_set4_other w5 hbx _ _ _ _).trans ((HB5.out.block _ hbz).trans HV.out.hb)), ((HV.out.own.below HB5.out).set4 (fun p hp hq => by obtain ⟨cs, m, h⟩ := HV.out.own.typed p hp; rw [hq, HX.out] at h; cases h) _ _ _ _).set4 (fun p hp hq => by obtain ⟨cs, m, h⟩ := HV.out.own.typed p hp; rw [hq, HY.out] at h; cases h) _ _ _ _⟩ ((heap_set4_other _ hxy _ _ _ _).trans (heap_set4 HX5.out _ _ _ _)) (heap_set4 ((heap_set4_other w5 hxy.symm _ _ _ _).trans HY5.out) _ _ _ _) HZ.out.1 HZ.out.2 HU.out.1 HU.out.2
            exact AllReadyH.nil
          exact AllReadyH.nil
        exact AllReadyH.nil
      exact AllReadyH.nil
    refine AllReadyH.cons (o := { dst := some 28, op := Go.Op.load 41 (Go.Operand.tmp 5), type := 41, pos := "outright.go:130", after := #[], guard := none }) rfl (fun K hK => ?_) ?_
    · go_simp
      refine hK.out _ _ ?_ (fun hHeld => ?_)
      · (try dsimp only); ((refine HS.out _ ?_; first | with_reducible exact HB5.out.block _ hbz | with_reducible exact HB4.out.block _ hbz | with_reducible exact (heap_set4_other w5 hbx (.int .i64 zk) (.int .i64 zf) (.int .i64 zt) (.int .u64 zn)).trans (HB5.out.block _ hbz) | with_reducible exact (heap_set4_other (set4 w5 xp (.int .i64 zk) (.int .i64 zf) (.int .i64 zt) (.int .u64 zn)) hby (.int .i64 uk) (.int .i64 uf) (.int .i64 ut) (.int .u64 un)).trans ((heap_set4_other w5 hbx _ _ _ _).trans (HB5.out.block _ hbz)) | with_reducible exact HDr.out))
      clear hK K
      (try simp only [Act.put, List.setIfInBounds_toArray, List.set_cons_zero, List.set_cons_succ])
      refine wpAnyH_ready (rs := [2]) (by kernel_rfl) (by simp) ?_
      refine AllReadyH.cons (o := { dst := some 26, op := Go.Op.call { callee := Go.Callee.value (Go.Operand.func 39), args := #[Go.Operand.tmp 24, Go.Operand.tmp 25], argTypes := #[26, 41] }, type := 41, pos := "outright.go:130", after := #[{ on := 0, ground := Go.Ground.data }, { on := 1, ground := Go.Ground.data }], guard := none }) rfl (fun K hK => ?_) ?_
      · go_simp
        refine (HNx.out _).mono ?_; rintro e w4 ⟨zk, zf, zt, zn, rfl, hk, hn, hf, ht, hb⟩; have HB4 : Hid (Below W.heap.size W w4) := Lib.hid ((Below.refl W.heap.size W).drew.trans hb); have HZ := Lib.hid (And.intro hk hn); obtain ⟨d0, d1, d2, d3, _⟩ := four ((HB4.out.block _ hyz).trans HY.out); clear hb hk hn hf ht
        go_wp2_with fail
        refine hK.out _ _ ?_ (fun hHeld => ?_)
        · (try dsimp only); ((refine HS.out _ ?_; first | with_reducible exact HB5.out.block _ hbz | with_reducible exact HB4.out.block _ hbz | with_reducible exact (heap_set4_other w5 hbx (.int .i64 zk) (.int .i64 zf) (.int .i64 zt) (.int .u64 zn)).trans (HB5.out.block _ hbz) | with_reducible exact (heap_set4_other (set4 w5 xp (.int .i64 zk) (.int .i64 zf) (.int .i64 zt) (.int .u64 zn)) hby (.int .i64 uk) (.int .i64 uf) (.int .i64 ut) (.int .u64 un)).trans ((heap_set4_other w5 hbx _ _ _ _).trans (HB5.out.block _ hbz)) | with_reducible exact HDr.out))
        clear hK K
        (try simp only [Act.put, List.setIfInBounds_toArray, List.set_cons_zero, List.set_cons_succ])
        refine wpAnyH_ready (rs := [5]) (by kernel_rfl) (by simp) ?_
        refine AllReadyH.cons (o := { dst := some 29, op := Go.Op.call { callee := Go.Callee.value (Go.Operand.func 39), args := #[Go.Operand.tmp 27, Go.Operand.tmp 28], argTypes := #[26, 41] }, type := 41, pos := "outright.go:130", after := #[{ on := 3, ground := Go.Ground.data }, { on := 4, ground := Go.Ground.data }, { on := 2, ground := Go.Ground.chain }], guard := none }) rfl (fun K hK => ?_) ?_
        · go_simp
          refine (HNy.out _).mono ?_; rintro e w5 ⟨uk, uf, ut, un, rfl, hk, hn, hf, ht, hb⟩; have HB5 : Hid (Below W.heap.size W w5) := Lib.hid (HB4.out.trans (hb.mono HB4.out.size)); have HU := Lib.hid (And.intro hk hn); have hx5 : xp < w5.heap.size := Nat.lt_of_lt_of_le hxz HB5.out.size; have hy5 : yp < w5.heap.size := Nat.lt_of_lt_of_le hyz HB5.out.size; have HX5 := Lib.hid ((HB5.out.block _ hxz).trans HX.out); have HY5 := Lib.hid ((HB5.out.block _ hyz).trans HY.out); obtain ⟨c0, c1, c2, c3, _⟩ := four HX5.out; obtain ⟨d0, d1, d2, d3, _⟩ := four HY5.out; obtain ⟨g0, g1, g2, g3, _⟩ := four ((heap_set4_other w5 hxy.symm (.int .i64 zk) (.int .i64 zf) (.int .i64 zt) (.int .u64 zn)).trans HY5.out); clear hb hk hn hf ht
          go_wp2_with fail
          refine hK.out _ _ ?_ (fun hHeld => ?_)
          · (try dsimp only); ((refine HS.out _ ?_; first | with_reducible exact HB5.out.block _ hbz | with_reducible exact HB4.out.block _ hbz | with_reducible exact (heap_set4_other w5 hbx (.int .i64 zk) (.int .i64 zf) (.int .i64 zt) (.int .u64 zn)).trans (HB5.out.block _ hbz) | with_reducible exact (heap_set4_other (set4 w5 xp (.int .i64 zk) (.int .i64 zf) (.int .i64 zt) (.int .u64 zn)) hby (.int .i64 uk) (.int .i64 uf) (.int .i64 ut) (.int .u64 un)).trans ((heap_set4_other w5 hbx _ _ _ _).trans (HB5.out.block _ hbz)) | with_reducible exact HDr.out))
          clear hK K
          (try simp only [Act.put, List.setIfInBounds_toArray, List.set_cons_zero, List.set_cons_succ])
          refine wpAnyH_ready (rs := [6]) (by kernel_rfl) (by simp) ?_
          refine AllReadyH.cons (o := { dst := none, op := Go.Op.store 41 (Go.Operand.tmp 4) (Go.Operand.tmp 26), type := 0, pos := "outright.go:130", after := #[{ on := 2, ground := Go.Ground.data }, { on := 5, ground := Go.Ground.chain }, { on := 0, ground := Go.Ground.phase }, { on := 1, ground := Go.Ground.phase }, { on := 2, ground := Go.Ground.phase }, { on := 3, ground := Go.Ground.textOnly Go.Departure.lateStores }, { on := 4, ground := Go.Ground.textOnly Go.Departure.lateStores }, { on := 5, ground := Go.Ground.textOnly Go.Departure.lateStoresUnsure }], guard := none }) rfl (fun K hK => ?_) ?_
          · go_simp
            (try go_wp2_with fail)
            refine hK.out _ _ ?_ (fun hHeld => ?_)
            · (try dsimp only); ((refine HS.out _ ?_; first | with_reducible exact HB5.out.block _ hbz | with_reducible exact HB4.out.block _ hbz | with_reducible exact (heap_set4_other w5 hbx (.int .i64 zk) (.int .i64 zf) (.int .i64 zt) (.int .u64 zn)).trans (HB5.out.block _ hbz) | with_reducible exact (heap_set4_other (set4 w5 xp (.int .i64 zk) (.int .i64 zf) (.int .i64 zt) (.int .u64 zn)) hby (.int .i64 uk) (.int .i64 uf) (.int .i64 ut) (.int .u64 un)).trans ((heap_set4_other w5 hbx _ _ _ _).trans (HB5.out.block _ hbz)) | with_reducible exact HDr.out))
            clear hK K
            (try simp only [Act.put, List.setIfInBounds_toArray, List.set_cons_zero, List.set_cons_succ])
            refine wpAnyH_ready (rs := [7]) (by kernel_rfl) (by simp) ?_
            refine AllReadyH.cons (o := { dst := none, op := Go.Op.store 41 (Go.Operand.tmp 5) (Go.Operand.tmp 29), type := 0, pos := "outright.go:130", after := #[{ on := 5, ground := Go.Ground.data }, { on := 6, ground := Go.Ground.chain }, { on := 0, ground := Go.Ground.phase }, { on := 1, ground := Go.Ground.phase }, { on := 2, ground := Go.Ground.phase }, { on := 3, ground := Go.Ground.phase }, { on := 4, ground := Go.Ground.phase }, { on := 5, ground := Go.Ground.phase }, { on := 6, ground := Go.Ground.phase }], guard := none }) rfl (fun K hK => ?_) ?_
            · go_simp
              (try go_wp2_with fail)
              refine hK.out _ _ ?_ (fun hHeld => ?_)
              · (try dsimp only); ((refine HS.out _ ?_; first | with_reducible exact HB5.out.block _ hbz | with_reducible exact HB4.out.block _ hbz | with_reducible exact (heap_set4_other w5 hbx (.int .i64 zk) (.int .i64 zf) (.int .i64 zt) (.int .u64 zn)).trans (HB5.out.block _ hbz) | with_reducible exact (heap_set4_other (set4 w5 xp (.int .i64 zk) (.int .i64 zf) (.int .i64 zt) (.int .u64 zn)) hby (.int .i64 uk) (.int .i64 uf) (.int .i64 ut) (.int .u64 un)).trans ((heap_set4_other w5 hbx _ _ _ _).trans (HB5.out.block _ hbz)) | with_reducible exact HDr.out))
              clear hK K
              (try simp only [Act.put, List.setIfInBounds_toArray, List.set_cons_zero, List.set_cons_succ])
              refine wpAnyH_done (by kernel_rfl) ?_ _
              refine NoPanic.normal ?_
              show KK _ _
              refine hK0 _ _ ?_
              exact HC.out _ _ zk zf zt zn uk uf ut un ⟨by simp, rfl, rfl, rfl, rfl, rfl, rfl, rfl, rfl, rfl, rfl, rfl, rfl, rfl, rfl, rfl, rfl, rfl⟩ (below_set4 (below_set4 (HBW.out.trans (HB5.out.mono HBW.out.size)) hxl _ _ _ _) hyl _ _ _ _) ⟨(heap_set4_other _ hby _ _ _ _).trans ((heap_set4_other w5 hbx _ _ _ _).trans ((HB5.out.block _ hbz).trans HV.out.hb)), ((HV.out.own.below HB5.out).set4 (fun p hp hq => by obtain ⟨cs, m, h⟩ := HV.out.own.typed p hp; rw [hq, HX.out] at h; cases h) _ _ _ _).set4 (fun p hp hq => by obtain ⟨cs, m, h⟩ := HV.out.own.typed p hp; rw [hq, HY.out] at h; cases h) _ _ _ _⟩ ((heap_set4_other _ hxy _ _ _ _).trans (heap_set4 HX5.out _ _ _ _)) (heap_set4 ((heap_set4_other w5 hxy.symm _ _ _ _).trans HY5.out) _ _ _ _) HZ.out.1 HZ.out.2 HU.out.1 HU.out.2
            exact AllReadyH.nil
          exact AllReadyH.nil
        exact AllReadyH.nil
      exact AllReadyH.nil
    exact AllReadyH.nil
  refine AllReadyH.cons (o := { dst := some 28, op := Go.Op.load 41 (Go.Operand.tmp 5), type := 41, pos := "outright.go:130", after := #[], guard := none }) rfl (fun K hK => ?_) ?_
  · go_simp
    refine hK.out _ _ ?_ (fun hHeld => ?_)
    · (try dsimp only); ((refine HS.out _ ?_; first | with_reducible exact HB5.out.block _ hbz | with_reducible exact HB4.out.block _ hbz | with_reducible exact (heap_set4_other w5 hbx (.int .i64 zk) (.int .i64 zf) (.int .i64 zt) (.int .u64 zn)).trans (HB5.out.block _ hbz) | with_reducible exact (heap_set4_other (set4 w5 xp (.int .i64 zk) (.int .i64 zf) (.int .i64 zt) (.int .u64 zn)) hby (.int .i64 uk) (.int .i64 uf) (.int .i64 ut) (.int .u64 un)).trans ((heap_set4_other w5 hbx _ _ _ _).trans (HB5.out.block _ hbz)) | with_reducible exact HDr.out))
    clear hK K
    (try simp only [Act.put, List.setIfInBounds_toArray, List.set_cons_zero, List.set_cons_succ])
    refine wpAnyH_ready (rs := [1]) (by kernel_rfl) (by simp) ?_
    refine AllReadyH.cons (o := { dst := some 25, op := Go.Op.load 41 (Go.Operand.tmp 4), type := 41, pos := "outright.go:130", after := #[], guard := none }) rfl (fun K hK => ?_) ?_
    · go_simp
      refine hK.out _ _ ?_ (fun hHeld => ?_)
      · (try dsimp only); ((refine HS.out _ ?_; first | with_reducible exact HB5.out.block _ hbz | with_reducible exact HB4.out.block _ hbz | with_reducible exact (heap_set4_other w5 hbx (.int .i64 zk) (.int .i64 zf) (.int .i64 zt) (.int .u64 zn)).trans (HB5.out.block _ hbz) | with_reducible exact (heap_set4_other (set4 w5 xp (.int .i64 zk) (.int .i64 zf) (.int .i64 zt) (.int .u64 zn)) hby (.int .i64 uk) (.int .i64 uf) (.int .i64 ut) (.int .u64 un)).trans ((heap_set4_other w5 hbx _ _ _ _).trans (HB5.out.block _ hbz)) | with_reducible exact HDr.out))
      clear hK K
      (try simp only [Act.put, List.setIfInBounds_toArray, List.set_cons_zero, List.set_cons_succ])
      refine wpAnyH_ready (rs := [2]) (by kernel_rfl) (by simp) ?_
      refine AllReadyH.cons (o := { dst := some 26, op := Go.Op.call { callee := Go.Callee.value (Go.Operand.func 39), args := #[Go.Operand.tmp 24, Go.Operand.tmp 25], argTypes := #[26, 41] }, type := 41, pos := "outright.go:130", after := #[{ on := 0, ground := Go.Ground.data }, { on := 1, ground := Go.Ground.data }], guard := none }) rfl (fun K hK => ?_) ?_
      · go_simp
        refine (HNx.out _).mono ?_; rintro e w4 ⟨zk, zf, zt, zn, rfl, hk, hn, hf, ht, hb⟩; have HB4 : Hid (Below W.heap.size W w4) := Lib.hid ((Below.refl W.heap.size W).drew.trans hb); have HZ := Lib.hid (And.intro hk hn); obtain ⟨d0, d1, d2, d3, _⟩ := four ((HB4.out.block _ hyz).trans HY.out); clear hb hk hn hf ht
        go_wp2_with fail
        refine hK.out _ _ ?_ (fun hHeld => ?_)
        · (try dsimp only); ((refine HS.out _ ?_; first | with_reducible exact HB5.out.block _ hbz | with_reducible exact HB4.out.block _ hbz | with_reducible exact (heap_set4_other w5 hbx (.int .i64 zk) (.int .i64 zf) (.int .i64 zt) (.int .u64 zn)).trans (HB5.out.block _ hbz) | with_reducible exact (heap_set4_other (set4 w5 xp (.int .i64 zk) (.int .i64 zf) (.int .i64 zt) (.int .u64 zn)) hby (.int .i64 uk) (.int .i64 uf) (.int .i64 ut) (.int .u64 un)).trans ((heap_set4_other w5 hbx _ _ _ _).trans (HB5.out.block _ hbz)) | with_reducible exact HDr.out))
        clear hK K
        (try simp only [Act.put, List.setIfInBounds_toArray, List.set_cons_zero, List.set_cons_succ])
        refine wpAnyH_ready (rs := [5]) (by kernel_rfl) (by simp) ?_
        refine AllReadyH.cons (o := { dst := some 29, op := Go.Op.call { callee := Go.Callee.value (Go.Operand.func 39), args := #[Go.Operand.tmp 27, Go.Operand.tmp 28], argTypes := #[26, 41] }, type := 41, pos := "outright.go:130", after := #[{ on := 3, ground := Go.Ground.data }, { on := 4, ground := Go.Ground.data }, { on := 2, ground := Go.Ground.chain }], guard := none }) rfl (fun K hK => ?_) ?_
        · go_simp
          refine (HNy.out _).mono ?_; rintro e w5 ⟨uk, uf, ut, un, rfl, hk, hn, hf, ht, hb⟩; have HB5 : Hid (Below W.heap.size W w5) := Lib.hid (HB4.out.trans (hb.mono HB4.out.size)); have HU := Lib.hid (And.intro hk hn); have hx5 : xp < w5.heap.size := Nat.lt_of_lt_of_le hxz HB5.out.size; have hy5 : yp < w5.heap.size := Nat.lt_of_lt_of_le hyz HB5.out.size; have HX5 := Lib.hid ((HB5.out.block _ hxz).trans HX.out); have HY5 := Lib.hid ((HB5.out.block _ hyz).trans HY.out); obtain ⟨c0, c1, c2, c3, _⟩ := four HX5.out; obtain ⟨d0, d1, d2, d3, _⟩ := four HY5.out; obtain ⟨g0, g1, g2, g3, _⟩ := four ((heap_set4_other w5 hxy.symm (.int .i64 zk) (.int .i64 zf) (.int .i64 zt) (.int .u64 zn)).trans HY5.out); clear hb hk hn hf ht
          go_wp2_with fail
          refine hK.out _ _ ?_ (fun hHeld => ?_)
          · (try dsimp only); ((refine HS.out _ ?_; first | with_reducible exact HB5.out.block _ hbz | with_reducible exact HB4.out.block _ hbz | with_reducible exact (heap_set4_other w5 hbx (.int .i64 zk) (.int .i64 zf) (.int .i64 zt) (.int .u64 zn)).trans (HB5.out.block _ hbz) | with_reducible exact (heap_set4_other (set4 w5 xp (.int .i64 zk) (.int .i64 zf) (.int .i64 zt) (.int .u64 zn)) hby (.int .i64 uk) (.int .i64 uf) (.int .i64 ut) (.int .u64 un)).trans ((heap_set4_other w5 hbx _ _ _ _).trans (HB5.out.block _ hbz)) | with_reducible exact HDr.out))
          clear hK K
          (try simp only [Act.put, List.setIfInBounds_toArray, List.set_cons_zero, List.set_cons_succ])
          refine wpAnyH_ready (rs := [6]) (by kernel_rfl) (by simp) ?_
          refine AllReadyH.cons (o := { dst := none, op := Go.Op.store 41 (Go.Operand.tmp 4) (Go.Operand.tmp 26), type := 0, pos := "outright.go:130", after := #[{ on := 2, ground := Go.Ground.data }, { on := 5, ground := Go.Ground.chain }, { on := 0, ground := Go.Ground.phase }, { on := 1, ground := Go.Ground.phase }, { on := 2, ground := Go.Ground.phase }, { on := 3, ground := Go.Ground.textOnly Go.Departure.lateStores }, { on := 4, ground := Go.Ground.textOnly Go.Departure.lateStores }, { on := 5, ground := Go.Ground.textOnly Go.Departure.lateStoresUnsure }], guard := none }) rfl (fun K hK => ?_) ?_
          · go_simp
            (try go_wp2_with fail)
            refine hK.out _ _ ?_ (fun hHeld => ?_)
            · (try dsimp only); ((refine HS.out _ ?_; first | with_reducible exact HB5.out.block _ hbz | with_reducible exact HB4.out.block _ hbz | with_reducible exact (heap_set4_other w5 hbx (.int .i64 zk) (.int .i64 zf) (.int .i64 zt) (.int .u64 zn)).trans (HB5.out.block _ hbz) | with_reducible exact (heap_set4_other (set4 w5 xp (.int .i64 zk) (.int .i64 zf) (.int .i64 zt) (.int .u64 zn)) hby (.int .i64 uk) (.int .i64 uf) (.int .i64 ut) (.int .u64 un)).trans ((heap_set4_other w5 hbx _ _ _ _).trans (HB5.out.block _ hbz)) | with_reducible exact HDr.out))
            clear hK K
            (try simp only [Act.put, List.setIfInBounds_toArray, List.set_cons_zero, List.set_cons_succ])
            refine wpAnyH_ready (rs := [7]) (by kernel_rfl) (by simp) ?_
            refine AllReadyH.cons (o := { dst := none, op := Go.Op.store 41 (Go.Operand.tmp 5) (Go.Operand.tmp 29), type := 0, pos := "outright.go:130", after := #[{ on := 5, ground := Go.Ground.data }, { on := 6, ground := Go.Ground.chain }, { on := 0, ground := Go.Ground.phase }, { on := 1, ground := Go.Ground.phase }, { on := 2, ground := Go.Ground.phase }, { on := 3, ground := Go.Ground.phase }, { on := 4, ground := Go.Ground.phase }, { on := 5, ground := Go.Ground.phase }, { on := 6, ground := Go.Ground.phase }], guard := none }) rfl (fun K hK => ?_) ?_
            · go_simp
              (try go_wp2_with fail)
              refine hK.out _ _ ?_ (fun hHeld => ?_)
              · (try dsimp only); ((refine HS.out _ ?_; first | with_reducible exact HB5.out.block _ hbz | with_reducible exact HB4.out.block _ hbz | with_reducible exact (heap_set4_other w5 hbx (.int .i64 zk) (.int .i64 zf) (.int .i64 zt) (.int .u64 zn)).trans (HB5.out.block _ hbz) | with_reducible exact (heap_set4_other (set4 w5 xp (.int .i64 zk) (.int .i64 zf) (.int .i64 zt) (.int .u64 zn)) hby (.int .i64 uk) (.int .i64 uf) (.int .i64 ut) (.int .u64 un)).trans ((heap_set4_other w5 hbx _ _ _ _).trans (HB5.out.block _ hbz)) | with_reducible exact HDr.out))
              clear hK K
              (try simp only [Act.put, List.setIfInBounds_toArray, List.set_cons_zero, List.set_cons_succ])
              refine wpAnyH_done (by kernel_rfl) ?_ _
              refine NoPanic.normal ?_
              show KK _ _
              refine hK0 _ _ ?_
              exact HC.out _ _ zk zf zt zn uk uf ut un ⟨by simp, rfl, rfl, rfl, rfl, rfl, rfl, rfl, rfl, rfl, rfl, rfl, rfl, rfl, rfl, rfl, rfl, rfl⟩ (below_set4 (below_set4 (HBW.out.trans (HB5.out.mono HBW.out.size)) hxl _ _ _ _) hyl _ _ _ _) ⟨(heap_set4_other _ hby _ _ _ _).trans ((heap_set4_other w5 hbx _ _ _ _).trans ((HB5.out.block _ hbz).trans HV.out.hb)), ((HV.out.own.below HB5.out).set4 (fun p hp hq => by obtain ⟨cs, m, h⟩ := HV.out.own.typed p hp; rw [hq, HX.out] at h; cases h) _ _ _ _).set4 (fun p hp hq => by obtain ⟨cs, m, h⟩ := HV.out.own.typed p hp; rw [hq, HY.out] at h; cases h) _ _ _ _⟩ ((heap_set4_other _ hxy _ _ _ _).trans (heap_set4 HX5.out _ _ _ _)) (heap_set4 ((heap_set4_other w5 hxy.symm _ _ _ _).trans HY5.out) _ _ _ _) HZ.out.1 HZ.out.2 HU.out.1 HU.out.2
            exact AllReadyH.nil
          exact AllReadyH.nil
        exact AllReadyH.nil
      exact AllReadyH.nil
    exact AllReadyH.nil
  exact AllReadyH.nil
end Go.Proofs.Ytjiffflhedekfaa
end
section
/- A frame of 94 slots: what of it is known at a cut. -/
namespace Go.Proofs.Ytjiffflhedekfaa
open Go.RowKit
set_option maxRecDepth 100000
structure Fe (A : Array Value) (l x y : Value) : Prop where
  size : A.size = 94
  h0 : A[0]? = some l
  h1 : A[1]? = some x
  h2 : A[2]? = some y
theorem Fe.lit (u : Nat → Value) : ((List.range 94).map u).toArray = List.toArray (u 0 :: u 1 :: u 2 :: u 3 :: u 4 :: u 5 :: u 6 :: u 7 :: u 8 :: u 9 :: u 10 :: u 11 :: u 12 :: u 13 :: u 14 :: u 15 :: u 16 :: u 17 :: u 18 :: u 19 :: u 20 :: u 21 :: u 22 :: u 23 :: u 24 :: u 25 :: u 26 :: u 27 :: u 28 :: u 29 :: u 30 :: u 31 :: u 32 :: u 33 :: u 34 :: u 35 :: u 36 :: u 37 :: u 38 :: u 39 :: u 40 :: u 41 :: u 42 :: u 43 :: u 44 :: u 45 :: u 46 :: u 47 :: u 48 :: u 49 :: u 50 :: u 51 :: u 52 :: u 53 :: u 54 :: u 55 :: u 56 :: u 57 :: u 58 :: u 59 :: u 60 :: u 61 :: u 62 :: u 63 :: u 64 :: u 65 :: u 66 :: u 67 :: u 68 :: u 69 :: u 70 :: u 71 :: u 72 :: u 73 :: u 74 :: u 75 :: u 76 :: u 77 :: u 78 :: u 79 :: u 80 :: u 81 :: u 82 :: u 83 :: u 84 :: u 85 :: u 86 :: u 87 :: u 88 :: u 89 :: u 90 :: u 91 :: u 92 :: u 93 :: []) := by kernel_rfl
theorem Fe.any (A : Array Value) (h : A.size = 94) : ∃ u : Nat → Value, A = ((List.range 94).map u).toArray := by
  refine ⟨fun i => A.getD i undef, ?_⟩
  apply Array.ext
  · simp [h]
  · intro i h1 h2
    simp [h1]
theorem Fe.open {A : Array Value} {l x y : Value} (h : Fe A l x y) : ∃ u : Nat → Value, A = List.toArray (l :: x :: y :: u 3 :: u 4 :: u 5 :: u 6 :: u 7 :: u 8 :: u 9 :: u 10 :: u 11 :: u 12 :: u 13 :: u 14 :: u 15 :: u 16 :: u 17 :: u 18 :: u 19 :: u 20 :: u 21 :: u 22 :: u 23 :: u 24 :: u 25 :: u 26 :: u 27 :: u 28 :: u 29 :: u 30 :: u 31 :: u 32 :: u 33 :: u 34 :: u 35 :: u 36 :: u 37 :: u 38 :: u 39 :: u 40 :: u 41 :: u 42 :: u 43 :: u 44 :: u 45 :: u 46 :: u 47 :: u 48 :: u 49 :: u 50 :: u 51 :: u 52 :: u 53 :: u 54 :: u 55 :: u 56 :: u 57 :: u 58 :: u 59 :: u 60 :: u 61 :: u 62 :: u 63 :: u 64 :: u 65 :: u 66 :: u 67 :: u 68 :: u 69 :: u 70 :: u 71 :: u 72 :: u 73 :: u 74 :: u 75 :: u 76 :: u 77 :: u 78 :: u 79 :: u 80 :: u 81 :: u 82 :: u 83 :: u 84 :: u 85 :: u 86 :: u 87 :: u 88 :: u 89 :: u 90 :: u 91 :: u 92 :: u 93 :: []) := by
  obtain ⟨u, hu⟩ := Fe.any A h.size
  refine ⟨u, ?_⟩
  have g : ∀ i, i < 94 → A[i]? = some (u i) := fun i hi => by rw [hu]; simp [hi]
  have e0 := Option.some.inj ((g 0 (by omega)).symm.trans h.h0)
  have e1 := Option.some.inj ((g 1 (by omega)).symm.trans h.h1)
  have e2 := Option.some.inj ((g 2 (by omega)).symm.trans h.h2)
  subst e0 e1 e2
  rw [hu]
  exact Fe.lit u
end Go.Proofs.Ytjiffflhedekfaa
end
section
/- BankBack: its parts put together, and the function. -/
namespace Go.Proofs.Ytjiffflhedekfaa
open Go.RowKit

theorem backR_n {k f t n a b c d : Int} {z : Bool} (h : backR k f t n = ((a, b, c, d), z)) : d = n := by
  unfold backR at h
  repeat' split at h
  all_goals (simp only [Prod.mk.injEq] at h; omega)

set_option maxRecDepth 100000 in
theorem bb_all : bb [] = .seq (bb [false]) (.seq (bb [true, false]) (.seq (.seq (bb [true, true, false, false]) (bb [true, true, false, true])) (.seq (bb [true, true, true, false]) (.seq (bb [true, true, true, true, false]) (.seq (bb [true, true, true, true, true, false]) (.seq (bb [true, true, true, true, true, true, false]) (bb [true, true, true, true, true, true, true]))))))) := rfl
set_option maxRecDepth 100000 in
theorem bb_8 : bb [true, true, false, true] = .seq (bb [true, true, false, true, false]) (.cond (.tmp 44) (.seq (bb [true, true, false, true, true, false, false]) (bb [true, true, false, true, true, false, true])) .skip) := rfl

section
variable {w W : World} {b bc xp yp : Nat} {B C : Bk} {ao ac : Option Addr} {c cc : Nat} {xk xf xt xn yk yf yt yn : Int} {A : Array Value} {Q : Exit → Act → World → Prop} {rs pd f p2 f2 pg hh pi k e pz isb pc : Value}
/-- Behind the move back: the move y, behind x and alone, and x behind y. -/
theorem bbTail (hBW : Below w.heap.size w W) (hV : Var w W b B ao c) (hVc : Var w W bc C ac cc) (hw : B.Wf) (hle : B.L.length ≤ 8)
    (hx : W.heap[xp]? = some (.cells #[.int .i64 xk, .int .i64 xf, .int .i64 xt, .int .u64 xn] 41 (0, 0))) (hy : W.heap[yp]? = some (.cells #[.int .i64 yk, .int .i64 yf, .int .i64 yt, .int .u64 yn] 41 (0, 0)))
    (hxk : 0 ≤ xk ∧ xk ≤ 4) (hxn : W64 xn) (hyk : 0 ≤ yk ∧ yk ≤ 4) (hyn : W64 yn) (hX : doesR B xk xf xt xn = (C, 0))
    (hF : Fb A (.pointer (some ⟨xp, 0, none⟩)) (.pointer (some ⟨yp, 0, none⟩)) rs (.bool true) (.pointer (some ⟨b, 0, none⟩)) (.pointer (some ⟨bc, 0, none⟩)) e pz isb pd f p2 f2 pg hh pi k)
    (hC : ∀ A' W' px py ok pb pc e pz isb pd f p2 f2 pg hh pi k, Fb A' px py (.bool true) ok pb pc e pz isb pd f p2 f2 pg hh pi k → Below w.heap.size w W' → Q .ret ⟨A', []⟩ W') :
    Code.wp Try.prog (.seq (bb [true, true, true, false]) (.seq (bb [true, true, true, true, false]) (.seq (bb [true, true, true, true, true, false]) (.seq (bb [true, true, true, true, true, true, false]) (bb [true, true, true, true, true, true, true]))))) Q ⟨A, []⟩ W := by
  have hC1 := doesR_ok hw hxn hxk (show (doesR B xk xf xt xn).2 = 0 by rw [hX])
  rw [hX] at hC1
  obtain ⟨hCw, hCl, _⟩ := hC1
  simp only at hCw hCl
  cases hD : doesR C yk yf yt yn with
  | mk D e2 =>
    refine bbR12 hVc hBW.size hCw (by omega) hy hyn hD hF fun A1 W1 bd ad cd hF hb1 hVd => ?_
    have hB1 := hBW.trans (hb1.mono hBW.size)
    have hV1 := hV.step hb1
    have hx1 := (hb1.block _ (lt_of_block hx)).trans hx
    have hy1 := (hb1.block _ (lt_of_block hy)).trans hy
    cases hG : doesR B yk yf yt yn with
    | mk G e3 =>
      refine bbR13 hV1 hB1.size hw hle hy1 hyn hG hF fun A2 W2 bg ag cg hF hb2 hVg => ?_
      have hB2 := hB1.trans (hb2.mono hB1.size)
      have hVd2 := hVd.step hb2
      have hx2 := (hb2.block _ (lt_of_block hx1)).trans hx1
      by_cases he2 : e2 = 0
      · subst he2
        by_cases he3 : e3 = 0
        · subst he3
          have hG1 := doesR_ok hw hyn hyk (show (doesR B yk yf yt yn).2 = 0 by rw [hG])
          rw [hG] at hG1
          obtain ⟨hGw, hGl, _⟩ := hG1
          have hD1 := doesR_ok hCw hyn hyk (show (doesR C yk yf yt yn).2 = 0 by rw [hD])
          rw [hD] at hD1
          obtain ⟨hDw, hDl, _⟩ := hD1
          simp only at hGw hGl hDw hDl
          refine bbR14_ok hF fun A3 hF => ?_
          cases hI : doesR G xk xf xt xn with
          | mk I e4 =>
            refine bbR16 hVg hB2.size hGw (by omega) hx2 hxn hI hF fun A4 W4 bi ai ci hF hb4 hVi => ?_
            have hB4 := hB2.trans (hb4.mono hB2.size)
            by_cases he4 : e4 = 0
            · subst he4
              obtain rfl := doesR_swap hw hxk hyk hxn hyn hX hD hG hI
              exact bbR17_ok (hVd2.step hb4) hVi (by omega) hF fun A5 W5 hF hb5 => hC _ _ _ _ _ _ _ _ _ _ _ _ _ _ _ _ _ _ hF (hB4.trans (hb5.mono hB4.size))
            · exact bbR17_err he4 hF fun A5 hF => hC _ _ _ _ _ _ _ _ _ _ _ _ _ _ _ _ _ _ hF hB4
        · exact bbR14_b he3 hF fun A3 hF => hC _ _ _ _ _ _ _ _ _ _ _ _ _ _ _ _ _ _ hF hB2
      · exact bbR14_a he2 hF fun A3 hF => hC _ _ _ _ _ _ _ _ _ _ _ _ _ _ _ _ _ _ hF hB2

theorem bbAll (hBW : Below w.heap.size w W) (hV : Var w W b B ao c) (hw : B.Wf) (hle : B.L.length ≤ 8)
    (hx : W.heap[xp]? = some (.cells #[.int .i64 xk, .int .i64 xf, .int .i64 xt, .int .u64 xn] 41 (0, 0))) (hy : W.heap[yp]? = some (.cells #[.int .i64 yk, .int .i64 yf, .int .i64 yt, .int .u64 yn] 41 (0, 0)))
    (hxk : 0 ≤ xk ∧ xk ≤ 4) (hxn : W64 xn) (hyk : 0 ≤ yk ∧ yk ≤ 4) (hyn : W64 yn)
    (hF : Fb A (.pointer (some ⟨xp, 0, none⟩)) (.pointer (some ⟨yp, 0, none⟩)) rs (.bool true) (.pointer (some ⟨b, 0, none⟩)) pc e pz isb pd f p2 f2 pg hh pi k)
    (hC : ∀ A' W' px py ok pb pc e pz isb pd f p2 f2 pg hh pi k, Fb A' px py (.bool true) ok pb pc e pz isb pd f p2 f2 pg hh pi k → Below w.heap.size w W' → Q .ret ⟨A', []⟩ W') :
    Code.wp Try.prog (bb []) Q ⟨A, []⟩ W := by
  rw [bb_all]
  cases hX : doesR B xk xf xt xn with
  | mk C e1 =>
    refine bbR4 hV hBW.size hw hle hx hxn hX hF fun A1 W1 bc ac cc hF hb1 hVc => ?_
    have hB1 := hBW.trans (hb1.mono hBW.size)
    have hV1 := hV.step hb1
    have hx1 := (hb1.block _ (lt_of_block hx)).trans hx
    have hy1 := (hb1.block _ (lt_of_block hy)).trans hy
    by_cases he1 : e1 = 0
    · subst he1
      have hC1 := doesR_ok hw hxn hxk (show (doesR B xk xf xt xn).2 = 0 by rw [hX])
      rw [hX] at hC1
      obtain ⟨hCw, hCl, _⟩ := hC1
      simp only at hCw hCl
      refine bbR5_ok hF fun A2 hF => ?_
      refine wp_seq ?_
      cases hz : backR xk xf xt xn with
      | mk z zis =>
        obtain ⟨za, zb, zc, zd⟩ := z
        refine bbR7 hx1 hxk hz hF fun A3 W3 zp hF hb3 hz3 => ?_
        have hB3 := hB1.trans (hb3.mono hB1.size)
        cases zis with
        | false =>
          refine bbR8_no hF fun A4 hF => ?_
          exact bbTail hB3 (hV1.step hb3) (hVc.step hb3) hw hle ((hb3.block _ (lt_of_block hx1)).trans hx1) ((hb3.block _ (lt_of_block hy1)).trans hy1) hxk hxn hyk hyn hX hF hC
        | true =>
          rw [bb_8]
          refine bbR8_yes hF fun A4 hF h44 => ?_
          refine wp_cond_true (by simp [Act.eval, h44]) ?_
          refine bbR9 (hVc.step hb3) hB3.size hCw (by omega) hz3 (by rw [backR_n hz]; exact hxn) (doesR_back hw hxn hxk hX hz) hF fun A5 W5 bd ad cd hF hb5 hVd => ?_
          have hB5 := hB3.trans (hb5.mono hB3.size)
          refine bbR10 ((hV1.step hb3).step hb5) hVd hle hF fun A6 W6 hF hb6 => ?_
          have hb36 : Below W3.heap.size W3 W6 := hb5.trans (hb6.mono hb5.size)
          have hb16 : Below W1.heap.size W1 W6 := hb3.trans (hb36.mono hb3.size)
          exact bbTail (hB1.trans (hb16.mono hB1.size)) (hV1.step hb16) (hVc.step hb16) hw hle ((hb16.block _ (lt_of_block hx1)).trans hx1) ((hb16.block _ (lt_of_block hy1)).trans hy1) hxk hxn hyk hyn hX hF hC
    · exact bbR5_err he1 hF fun A2 hF => hC _ _ _ _ _ _ _ _ _ _ _ _ _ _ _ _ _ _ hF hB1
end

set_option maxRecDepth 100000 in
set_option maxHeartbeats 3200000 in
/-- The way to the near moves. -/
theorem bbIn {w : World} {ao0 : Option Addr} {l0 : List Int} {c0 : Nat} {xk xf xt xn yk yf yt yn : Int} {A : Array Value} {Q : Exit → Act → World → Prop} {rest : Code}
    (hl0 : Rd w ao0 l0) (hw0 : Ws l0) (nl0 : l0.length ≤ 9223372036854775807)
    (hF : Fe A (.slice ao0 l0.length c0) (.agg #[.int .i64 xk, .int .i64 xf, .int .i64 xt, .int .u64 xn]) (.agg #[.int .i64 yk, .int .i64 yf, .int .i64 yt, .int .u64 yn]))
    (hC : ∀ (A' : Array Value) (W' : World) (b : Nat) (B : Bk) (ao : Option Addr) (c : Nat) (pc e pz isb pd f p2 f2 pg hh pi k : Value), Fb A' (.pointer (some ⟨w.heap.size, 0, none⟩)) (.pointer (some ⟨w.heap.size + 1, 0, none⟩)) (.bool false) (.bool true) (.pointer (some ⟨b, 0, none⟩)) pc e pz isb pd f p2 f2 pg hh pi k →
      Below w.heap.size w W' → Var w W' b B ao c → B.Wf → B.L.length ≤ 8 →
      W'.heap[w.heap.size]? = some (.cells #[.int .i64 xk, .int .i64 xf, .int .i64 xt, .int .u64 xn] 41 (0, 0)) → W'.heap[w.heap.size + 1]? = some (.cells #[.int .i64 yk, .int .i64 yf, .int .i64 yt, .int .u64 yn] 41 (0, 0)) →
      Code.wp Try.prog rest Q ⟨A', []⟩ W') :
    Code.wp Try.prog (.seq (nav (Try.f7.body.getD .skip) [false]) (.seq (nav (Try.f7.body.getD .skip) [true, false]) (.seq (nav (Try.f7.body.getD .skip) [true, true, false]) rest))) Q ⟨A, []⟩ w := by
  have HL := Lib.hid hl0
  have HW := Lib.hid hw0
  have HC := Lib.hid hC
  have HN := Lib.hid nl0
  obtain ⟨v, rfl⟩ := hF.open
  clear hl0 hw0 hC hF nl0
  conv => arg 2; arg 1; whnf
  conv => arg 2; arg 2; arg 1; whnf
  conv => arg 2; arg 2; arg 2; arg 1; whnf
  go_wp2_with fail
  refine (bankKnown_any _).mono ?_
  rintro e w1 ⟨rfl, hb⟩
  have hs1 : w.heap.size + 2 ≤ w1.heap.size := by have := hb.size; simpa using this
  have hx1 := (hb.block w.heap.size (by first | (simp; done) | (simp; omega))).trans ((heap_old (w.alloc (.cells #[.int .i64 xk, .int .i64 xf, .int .i64 xt, .int .u64 xn] 41)) (.cells #[.int .i64 yk, .int .i64 yf, .int .i64 yt, .int .u64 yn] 41) (by first | (simp; done) | (simp; omega))).trans (heap_at w (.cells #[.int .i64 xk, .int .i64 xf, .int .i64 xt, .int .u64 xn] 41) rfl))
  have hy1 := (hb.block (w.heap.size + 1) (by first | (simp; done) | (simp; omega))).trans (heap_at (w.alloc (.cells #[.int .i64 xk, .int .i64 xf, .int .i64 xt, .int .u64 xn] 41)) (.cells #[.int .i64 yk, .int .i64 yf, .int .i64 yt, .int .u64 yn] 41) (by first | (simp; done) | (simp; omega)))
  have HB := Lib.hid ((((Below.refl w.heap.size w).alloc (Nat.le_refl _) _).alloc (by first | (simp; done) | (simp; omega)) _).trans (hb.mono (by first | (simp; done) | (simp; omega))))
  have HX := Lib.hid (And.intro hx1 hy1)
  clear hb hx1 hy1
  go_wp2_with fail
  refine (some_any ao0 l0 c0 w1 (HL.out.below HB.out) HW.out HN.out).mono ?_
  rintro e w2 ⟨B, ao, c, rfl, hown, hb, hwf, hchk, hle⟩
  have HB2 := Lib.hid (HB.out.trans (hb.mono HB.out.size))
  have HV := Lib.hid (⟨heap_at w2 _ rfl, (hown.mono HB.out.size).alloc _⟩ : Var w (w2.alloc (.cells #[.slice ao B.L.length c, .int .u64 B.p0, .int .u64 B.p1, .int .u64 B.p2, .int .u64 B.p3] 26)) w2.heap.size B ao c)
  have HX2 := Lib.hid (And.intro ((((Below.refl w2.heap.size w2).alloc (Nat.le_refl _) (.cells #[.slice ao B.L.length c, .int .u64 B.p0, .int .u64 B.p1, .int .u64 B.p2, .int .u64 B.p3] 26)).block w.heap.size (by have := hb.size; omega)).trans ((hb.block w.heap.size (by omega)).trans HX.out.1))
    ((((Below.refl w2.heap.size w2).alloc (Nat.le_refl _) (.cells #[.slice ao B.L.length c, .int .u64 B.p0, .int .u64 B.p1, .int .u64 B.p2, .int .u64 B.p3] 26)).block (w.heap.size + 1) (by have := hb.size; omega)).trans ((hb.block (w.heap.size + 1) (by omega)).trans HX.out.2)))
  have HBk := Lib.hid (And.intro hwf hle)
  clear hb hown hwf hchk hle
  go_wp2_with fail
  exact HC.out _ _ w2.heap.size B ao c _ _ _ _ _ _ _ _ _ _ _ _ ⟨by simp, rfl, rfl, rfl, rfl, rfl, rfl, rfl, rfl, rfl, rfl, rfl, rfl, rfl, rfl, rfl, rfl, rfl⟩ (HB2.out.alloc HB2.out.size _) HV.out HBk.out.1 HBk.out.2 HX2.out.1 HX2.out.2

set_option maxRecDepth 100000 in
set_option maxHeartbeats 3200000 in
theorem bankBack_any (ao0 : Option Addr) (l0 : List Int) (c0 : Nat) (xk xf xt xn yk yf yt yn : Int) (w : World) (hl0 : Rd w ao0 l0) (hw0 : Ws l0) (nl0 : l0.length ≤ 9223372036854775807) (x1 : I64 xk) (x2 : I64 xf) (x3 : I64 xt) (x4 : W64 xn) (y1 : I64 yk) (y2 : I64 yf) (y3 : I64 yt) (y4 : W64 yn) :
    Calls Try.prog 7 #[.slice ao0 l0.length c0, .agg #[.int .i64 xk, .int .i64 xf, .int .i64 xt, .int .u64 xn], .agg #[.int .i64 yk, .int .i64 yf, .int .i64 yt, .int .u64 yn]] w fun e w' => e = .returned (.bool true) ∧ Below w.heap.size w w' := by
  go_enter Try.func7, Try.ntmps7
  change Code.wp Try.prog (.seq (nav (Try.f7.body.getD .skip) [false]) (.seq (nav (Try.f7.body.getD .skip) [true, false]) (.seq (nav (Try.f7.body.getD .skip) [true, true, false]) (.seq (nav (Try.f7.body.getD .skip) [true, true, true, false]) (bb []))))) _ _ _
  refine bbIn hl0 hw0 nl0 ⟨by simp, rfl, rfl, rfl⟩ ?_
  intro A W b B ao c pc e pz isb pd f p2 f2 pg hh pi k hF hB hV hwf hle hx hy
  refine bbR3 hB hV hle hx hy (by omega) (Nat.le_refl _) (Nat.le_succ _) x1 x2 x3 x4 y1 y2 y3 y4 hF ?_
  intro A2 W2 zk zf zt zn uk uf ut un hF hB hV hx hy z1 z2 u1 u2
  refine bbAll hB hV hwf hle hx hy z1 z2 u1 u2 hF ?_
  intro A3 W3 px py ok pb pc e pz isb pd f p2 f2 pg hh pi k hF hB
  obtain ⟨v, rfl⟩ := hF.open
  go_ret
  exact ⟨rfl, hB⟩
end Go.Proofs.Ytjiffflhedekfaa
end
