/- Fy, By0, Fz, By1: texts of this claim, merged. -/
import Derived.WalkKit
import Derived.WalkSpells
import Derived.WalkLawsBesides
import Derived.Lib.Hide
import Derived.Test.YtjiffflhedekfaaProg
import Derived.Test.YtjiffflhedekfaaKn0
import Derived.Test.YtjiffflhedekfaaBm0
import Derived.Test.YtjiffflhedekfaaBty
import Derived.Test.YtjiffflhedekfaaRp2
import Derived.Test.YtjiffflhedekfaaOby
import Derived.Test.YtjiffflhedekfaaAwk
import Derived.Test.YtjiffflhedekfaaRqM
section
/- A frame of 84 slots: what of it is known at a cut. -/
namespace Go.Proofs.Ytjiffflhedekfaa
open Go.RowKit
set_option maxRecDepth 100000
structure Fy (A : Array Value) (raw pb rs pin own x ex y ey pp pg pq ph sm : Value) : Prop where
  size : A.size = 84
  h1 : A[1]? = some raw
  h2 : A[2]? = some pb
  h4 : A[4]? = some rs
  h5 : A[5]? = some pin
  h6 : A[6]? = some own
  h7 : A[7]? = some x
  h8 : A[8]? = some ex
  h9 : A[9]? = some y
  h10 : A[10]? = some ey
  h11 : A[11]? = some pp
  h12 : A[12]? = some pg
  h13 : A[13]? = some pq
  h14 : A[14]? = some ph
  h15 : A[15]? = some sm
theorem Fy.lit (u : Nat → Value) : ((List.range 84).map u).toArray = List.toArray (u 0 :: u 1 :: u 2 :: u 3 :: u 4 :: u 5 :: u 6 :: u 7 :: u 8 :: u 9 :: u 10 :: u 11 :: u 12 :: u 13 :: u 14 :: u 15 :: u 16 :: u 17 :: u 18 :: u 19 :: u 20 :: u 21 :: u 22 :: u 23 :: u 24 :: u 25 :: u 26 :: u 27 :: u 28 :: u 29 :: u 30 :: u 31 :: u 32 :: u 33 :: u 34 :: u 35 :: u 36 :: u 37 :: u 38 :: u 39 :: u 40 :: u 41 :: u 42 :: u 43 :: u 44 :: u 45 :: u 46 :: u 47 :: u 48 :: u 49 :: u 50 :: u 51 :: u 52 :: u 53 :: u 54 :: u 55 :: u 56 :: u 57 :: u 58 :: u 59 :: u 60 :: u 61 :: u 62 :: u 63 :: u 64 :: u 65 :: u 66 :: u 67 :: u 68 :: u 69 :: u 70 :: u 71 :: u 72 :: u 73 :: u 74 :: u 75 :: u 76 :: u 77 :: u 78 :: u 79 :: u 80 :: u 81 :: u 82 :: u 83 :: []) := by kernel_rfl
theorem Fy.any (A : Array Value) (h : A.size = 84) : ∃ u : Nat → Value, A = ((List.range 84).map u).toArray := by
  refine ⟨fun i => A.getD i undef, ?_⟩
  apply Array.ext
  · simp [h]
  · intro i h1 h2
    simp [h1]
theorem Fy.open {A : Array Value} {raw pb rs pin own x ex y ey pp pg pq ph sm : Value} (h : Fy A raw pb rs pin own x ex y ey pp pg pq ph sm) : ∃ u : Nat → Value, A = List.toArray (u 0 :: raw :: pb :: u 3 :: rs :: pin :: own :: x :: ex :: y :: ey :: pp :: pg :: pq :: ph :: sm :: u 16 :: u 17 :: u 18 :: u 19 :: u 20 :: u 21 :: u 22 :: u 23 :: u 24 :: u 25 :: u 26 :: u 27 :: u 28 :: u 29 :: u 30 :: u 31 :: u 32 :: u 33 :: u 34 :: u 35 :: u 36 :: u 37 :: u 38 :: u 39 :: u 40 :: u 41 :: u 42 :: u 43 :: u 44 :: u 45 :: u 46 :: u 47 :: u 48 :: u 49 :: u 50 :: u 51 :: u 52 :: u 53 :: u 54 :: u 55 :: u 56 :: u 57 :: u 58 :: u 59 :: u 60 :: u 61 :: u 62 :: u 63 :: u 64 :: u 65 :: u 66 :: u 67 :: u 68 :: u 69 :: u 70 :: u 71 :: u 72 :: u 73 :: u 74 :: u 75 :: u 76 :: u 77 :: u 78 :: u 79 :: u 80 :: u 81 :: u 82 :: u 83 :: []) := by
  obtain ⟨u, hu⟩ := Fy.any A h.size
  refine ⟨u, ?_⟩
  have g : ∀ i, i < 84 → A[i]? = some (u i) := fun i hi => by rw [hu]; simp [hi]
  have e1 := Option.some.inj ((g 1 (by omega)).symm.trans h.h1)
  have e2 := Option.some.inj ((g 2 (by omega)).symm.trans h.h2)
  have e4 := Option.some.inj ((g 4 (by omega)).symm.trans h.h4)
  have e5 := Option.some.inj ((g 5 (by omega)).symm.trans h.h5)
  have e6 := Option.some.inj ((g 6 (by omega)).symm.trans h.h6)
  have e7 := Option.some.inj ((g 7 (by omega)).symm.trans h.h7)
  have e8 := Option.some.inj ((g 8 (by omega)).symm.trans h.h8)
  have e9 := Option.some.inj ((g 9 (by omega)).symm.trans h.h9)
  have e10 := Option.some.inj ((g 10 (by omega)).symm.trans h.h10)
  have e11 := Option.some.inj ((g 11 (by omega)).symm.trans h.h11)
  have e12 := Option.some.inj ((g 12 (by omega)).symm.trans h.h12)
  have e13 := Option.some.inj ((g 13 (by omega)).symm.trans h.h13)
  have e14 := Option.some.inj ((g 14 (by omega)).symm.trans h.h14)
  have e15 := Option.some.inj ((g 15 (by omega)).symm.trans h.h15)
  subst e1 e2 e4 e5 e6 e7 e8 e9 e10 e11 e12 e13 e14 e15
  rw [hu]
  exact Fy.lit u
end Go.Proofs.Ytjiffflhedekfaa
end
section
/- BankBytes: its regions, one by one. -/
namespace Go.Proofs.Ytjiffflhedekfaa
open Go.RowKit
noncomputable def by_ (p : List Bool) : Code := nav (Try.f4.body.getD .skip) p

/-- The bytes of a bank, none of one that may not be. -/
def bytesA (B : Bk) : List Int := if B.chk = 0 then bytesL B else []
theorem bytesA_bs {B : Bk} (hw : B.Wf) : Bs (bytesA B) := by
  unfold bytesA
  split
  · rename_i hc
    have := chk_tot hc
    refine (putF_bs 9 _ (by omega) (by omega)).append ?_
    have putA_bs : ∀ l : List Int, Ws l → Bs (putA l) := fun l => by
      induction l with
      | nil => intro _; exact Bs.nil
      | cons x l ih =>
        intro h
        have hx := h x (List.mem_cons_self ..)
        exact (putF_bs 9 x hx.1 (by have := hx.2; omega)).append (ih fun y hy => h y (List.mem_cons_of_mem _ hy))
    exact putA_bs _ hw.all
  · exact Bs.nil
def BytesP (w : World) (B : Bk) (e : Ending) (w' : World) : Prop :=
  ∃ ao cap, e = .returned (.tuple #[.slice ao (bytesA B).length cap, .int .i64 B.chk]) ∧ Rb w' ao (bytesA B) ∧ Below w.heap.size w w'
theorem bytes_any (ao : Option Addr) (B : Bk) (c : Nat) (w : World) (hB : Rd w ao B.L) (hw : B.Wf) (nB : B.L.length ≤ 9223372036854775807) :
    Calls Try.prog 26 #[.agg #[.slice ao B.L.length c, .int .u64 B.p0, .int .u64 B.p1, .int .u64 B.p2, .int .u64 B.p3]] w (BytesP w B) := by
  by_cases hc : B.chk = 0
  · refine (bytes_yes ao B c w hB hw hc).mono ?_
    rintro e w' ⟨g, cap, rfl, hown, hb⟩
    unfold BytesP bytesA
    rw [if_pos hc, hc]
    exact ⟨_, cap, rfl, hown.rb, hb⟩
  · refine (bytes_no ao B c w hB hw nB hc).mono ?_
    rintro e w' ⟨rfl, hb⟩
    unfold BytesP bytesA
    rw [if_neg hc]
    exact ⟨none, 0, rfl, Rb.nil _ _, hb⟩
theorem refBytes_any (ao : Option Addr) (B : Bk) (c : Nat) (w : World) (hB : Rd w ao B.L) (hw : B.Wf) (nB : B.L.length ≤ 9223372036854775807) :
    Calls Try.prog 27 #[.agg #[.slice ao B.L.length c, .int .u64 B.p0, .int .u64 B.p1, .int .u64 B.p2, .int .u64 B.p3]] w (BytesP w B) := by
  by_cases hc : B.chk = 0
  · refine (refBytes_yes ao B c w hB hw hc).mono ?_
    rintro e w' ⟨g, cap, rfl, hown, hb⟩
    unfold BytesP bytesA
    rw [if_pos hc, hc]
    exact ⟨_, cap, rfl, hown.rb, hb⟩
  · refine (refBytes_no ao B c w hB hw nB hc).mono ?_
    rintro e w' ⟨rfl, hb⟩
    unfold BytesP bytesA
    rw [if_neg hc]
    exact ⟨none, 0, rfl, Rb.nil _ _, hb⟩

/-- A variable that holds a bank whose accounts can be read. -/
structure Bv (W : World) (b : Nat) (B : Bk) (ao : Option Addr) (c : Nat) : Prop where
  hb : W.heap[b]? = some (.cells #[.slice ao B.L.length c, .int .u64 B.p0, .int .u64 B.p1, .int .u64 B.p2, .int .u64 B.p3] 26 (0, 0))
  rd : Rd W ao B.L
theorem Bv.step {W W' : World} {b : Nat} {B : Bk} {ao : Option Addr} {c : Nat} (h : Bv W b B ao c) (hb : Below W.heap.size W W') : Bv W' b B ao c :=
  ⟨(hb.block _ (lt_of_block h.hb)).trans h.hb, h.rd.below hb⟩

set_option maxRecDepth 100000 in
set_option maxHeartbeats 1600000 in
theorem bR4 {W : World} {b : Nat} {B : Bk} {ao : Option Addr} {c : Nat} {A : Array Value} {Q : Exit → Act → World → Prop} {rest : Code} {raw pb rs own x ex y ey pp pg pq ph sm : Value}
    (hV : Bv W b B ao c) (hw : B.Wf) (nB : B.L.length ≤ 9223372036854775807) (hF : Fy A raw pb rs (.pointer (some ⟨b, 0, none⟩)) own x ex y ey pp pg pq ph sm)
    (hC : ∀ (A' : Array Value) (W' : World) (xo : Option Addr) (cap : Nat), Fy A' raw pb rs (.pointer (some ⟨b, 0, none⟩)) own (.slice xo (bytesA B).length cap) (.int .i64 B.chk) y ey pp pg pq ph sm → Below W.heap.size W W' → Rb W' xo (bytesA B) → Code.wp Try.prog rest Q ⟨A', []⟩ W') :
    Code.wp Try.prog (.seq (by_ [true, true, true, false]) rest) Q ⟨A, []⟩ W := by
  have HC := Lib.hid hC
  have HD := Lib.hid (bytes_any ao B c W hV.rd hw nB)
  obtain ⟨a0, a1, a2, a3, a4, _⟩ := five hV.hb
  obtain ⟨v, rfl⟩ := hF.open
  clear hC hF hV hw
  conv => arg 2; arg 1; whnf
  go_wp2_with fail
  refine HD.out.mono ?_
  rintro e w5 ⟨xo, cap, rfl, hown, hb⟩
  have HB5 := Lib.hid hb
  have HO5 := Lib.hid hown
  clear hb hown
  go_wp2_with fail
  exact HC.out _ _ xo cap ⟨by simp, rfl, rfl, rfl, rfl, rfl, rfl, rfl, rfl, rfl, rfl, rfl, rfl, rfl, rfl⟩ HB5.out HO5.out

set_option maxRecDepth 100000 in
set_option maxHeartbeats 1600000 in
theorem bR5 {W : World} {b : Nat} {B : Bk} {ao : Option Addr} {c : Nat} {A : Array Value} {Q : Exit → Act → World → Prop} {rest : Code} {raw pin rs own x ex y ey pp pg pq ph sm : Value}
    (hV : Bv W b B ao c) (hw : B.Wf) (nB : B.L.length ≤ 9223372036854775807) (hF : Fy A raw (.pointer (some ⟨b, 0, none⟩)) rs pin own x ex y ey pp pg pq ph sm)
    (hC : ∀ (A' : Array Value) (W' : World) (xo : Option Addr) (cap : Nat), Fy A' raw (.pointer (some ⟨b, 0, none⟩)) rs pin own x ex (.slice xo (bytesA B).length cap) (.int .i64 B.chk) pp pg pq ph sm → Below W.heap.size W W' → Rb W' xo (bytesA B) → Code.wp Try.prog rest Q ⟨A', []⟩ W') :
    Code.wp Try.prog (.seq (by_ [true, true, true, true, false]) rest) Q ⟨A, []⟩ W := by
  have HC := Lib.hid hC
  have HD := Lib.hid (refBytes_any ao B c W hV.rd hw nB)
  obtain ⟨a0, a1, a2, a3, a4, _⟩ := five hV.hb
  obtain ⟨v, rfl⟩ := hF.open
  clear hC hF hV hw
  conv => arg 2; arg 1; whnf
  go_wp2_with fail
  refine HD.out.mono ?_
  rintro e w5 ⟨xo, cap, rfl, hown, hb⟩
  have HB5 := Lib.hid hb
  have HO5 := Lib.hid hown
  clear hb hown
  go_wp2_with fail
  exact HC.out _ _ xo cap ⟨by simp, rfl, rfl, rfl, rfl, rfl, rfl, rfl, rfl, rfl, rfl, rfl, rfl, rfl, rfl⟩ HB5.out HO5.out

set_option maxRecDepth 100000 in
set_option maxHeartbeats 1600000 in
theorem bR6 {W : World} {b bi : Nat} {B : Bk} {ao ai xo yo : Option Addr} {c ci xc yc : Nat} {L : List Int} {er : Int} {A : Array Value} {Q : Exit → Act → World → Prop} {rest : Code} {raw rs own pp pg pq ph sm : Value}
    (hV : Bv W b B ao c) (hI : Bv W bi B ai ci) (nB : B.L.length ≤ 9223372036854775807) (hx : Rb W xo L) (hy : Rb W yo L) (bL : Bs L)
    (hF : Fy A raw (.pointer (some ⟨b, 0, none⟩)) rs (.pointer (some ⟨bi, 0, none⟩)) own (.slice xo L.length xc) (.int .i64 er) (.slice yo L.length yc) (.int .i64 er) pp pg pq ph sm)
    (hC : ∀ (A' : Array Value) (W' : World), Fy A' raw (.pointer (some ⟨b, 0, none⟩)) rs (.pointer (some ⟨bi, 0, none⟩)) own (.slice xo L.length xc) (.int .i64 er) (.slice yo L.length yc) (.int .i64 er) pp pg pq ph sm → Below W.heap.size W W' → Code.wp Try.prog rest Q ⟨A', []⟩ W') :
    Code.wp Try.prog (.seq (by_ [true, true, true, true, true, false]) rest) Q ⟨A, []⟩ W := by
  have HC := Lib.hid hC
  have HD := Lib.hid (sameBytes_any xo yo L L xc yc W hx hy bL bL)
  rw [show decide (L = L) = true by simp] at HD
  have HS := Lib.hid (sameBank_any ai ao B B ci c W hI.rd hV.rd nB nB)
  rw [show decide (B = B) = true by simp] at HS
  obtain ⟨a0, a1, a2, a3, a4, _⟩ := five hV.hb
  obtain ⟨b0, b1, b2, b3, b4, _⟩ := five hI.hb
  obtain ⟨v, rfl⟩ := hF.open
  clear hC hF hV hI hx hy bL
  conv => arg 2; arg 1; whnf
  go_wp2_with fail
  refine HD.out.mono ?_
  rintro e w5 ⟨rfl, rfl⟩
  go_wp2_with fail
  refine HS.out.mono ?_
  rintro e w6 ⟨rfl, hb⟩
  have HB5 := Lib.hid hb
  clear hb
  go_wp2_with fail
  exact HC.out _ _ ⟨by simp, rfl, rfl, rfl, rfl, rfl, rfl, rfl, rfl, rfl, rfl, rfl, rfl, rfl, rfl⟩ HB5.out

set_option maxRecDepth 100000 in
set_option maxHeartbeats 1600000 in
theorem bR8 {W : World} {xo : Option Addr} {xc : Nat} {L : List Int} {R : Bk} {e1 e2 : Int} {A : Array Value} {Q : Exit → Act → World → Prop} {rest : Code} {raw pb rs pin x ex y ey pp pg pq ph sm : Value}
    (hL : Rb W xo L) (bl : Bs L) (nl : L.length ≤ 140737488355328) (hR : readR L = (R, e1, e2)) (hF : Fy A raw pb rs pin (.slice xo L.length xc) x ex y ey pp pg pq ph sm)
    (hC : ∀ (A' : Array Value) (W' : World) (p q : Nat) (la : Option Addr) (cap : Nat), Fy A' raw pb rs pin (.slice xo L.length xc) x ex y ey (.pointer (some ⟨p, 0, none⟩)) (.pointer (some ⟨q, 0, none⟩)) pq ph sm → Below W.heap.size W W' → Var W W' p R la cap → W'.heap[q]? = some (.cells #[.int .i64 e1, .int .i64 e2] 49 (0, 0)) → Code.wp Try.prog rest Q ⟨A', []⟩ W') :
    Code.wp Try.prog (.seq (by_ [true, true, true, true, true, true, false]) rest) Q ⟨A, []⟩ W := by
  have HD := read_any xo L xc W hL bl nl
  rw [hR] at HD
  simp only at HD
  have HD := Lib.hid HD
  have HC := Lib.hid hC
  obtain ⟨v, rfl⟩ := hF.open
  clear hC hF hL bl nl hR
  conv => arg 2; arg 1; whnf
  go_wp2_with fail
  refine HD.out.mono ?_
  rintro e w5 ⟨la, cap, rfl, hown, hb⟩
  have HB5 := Lib.hid hb
  have HO5 := Lib.hid hown
  clear hb hown
  go_wp2_with fail
  exact HC.out _ _ w5.heap.size (w5.heap.size + 1) la cap ⟨by simp, rfl, rfl, rfl, rfl, rfl, rfl, rfl, rfl, rfl, rfl, rfl, rfl, rfl, rfl⟩ ((HB5.out.alloc HB5.out.size _).alloc (by have := HB5.out.size; simp; omega) _) ⟨(heap_old _ _ (by simp)).trans (heap_at w5 _ rfl), (HO5.out.alloc _).alloc _⟩ (heap_at _ _ (by simp))

set_option maxRecDepth 100000 in
set_option maxHeartbeats 1600000 in
theorem bR9 {W : World} {xo : Option Addr} {xc : Nat} {L : List Int} {R : Bk} {e1 e2 : Int} {A : Array Value} {Q : Exit → Act → World → Prop} {rest : Code} {own pb rs pin x ex y ey pp pg pq ph sm : Value}
    (hL : Rb W xo L) (bl : Bs L) (nl : L.length ≤ 140737488355328) (hR : readR L = (R, e1, e2)) (hF : Fy A (.slice xo L.length xc) pb rs pin own x ex y ey pp pg pq ph sm)
    (hC : ∀ (A' : Array Value) (W' : World) (p q : Nat) (la : Option Addr) (cap : Nat), Fy A' (.slice xo L.length xc) pb rs pin own x ex y ey pp pg (.pointer (some ⟨p, 0, none⟩)) (.pointer (some ⟨q, 0, none⟩)) sm → Below W.heap.size W W' → Var W W' p R la cap → W'.heap[q]? = some (.cells #[.int .i64 e1, .int .i64 e2] 49 (0, 0)) → Code.wp Try.prog rest Q ⟨A', []⟩ W') :
    Code.wp Try.prog (.seq (by_ [true, true, true, true, true, true, true, false]) rest) Q ⟨A, []⟩ W := by
  have HD := refRead_any xo L xc W hL bl nl
  rw [hR] at HD
  simp only at HD
  have HD := Lib.hid HD
  have HC := Lib.hid hC
  obtain ⟨v, rfl⟩ := hF.open
  clear hC hF hL bl nl hR
  conv => arg 2; arg 1; whnf
  go_wp2_with fail
  refine HD.out.mono ?_
  rintro e w5 ⟨la, cap, rfl, hown, hb⟩
  have HB5 := Lib.hid hb
  have HO5 := Lib.hid hown
  clear hb hown
  go_wp2_with fail
  exact HC.out _ _ w5.heap.size (w5.heap.size + 1) la cap ⟨by simp, rfl, rfl, rfl, rfl, rfl, rfl, rfl, rfl, rfl, rfl, rfl, rfl, rfl, rfl⟩ ((HB5.out.alloc HB5.out.size _).alloc (by have := HB5.out.size; simp; omega) _) ⟨(heap_old _ _ (by simp)).trans (heap_at w5 _ rfl), (HO5.out.alloc _).alloc _⟩ (heap_at _ _ (by simp))

set_option maxRecDepth 100000 in
set_option maxHeartbeats 1600000 in
theorem bR10 {W : World} {base g xc : Nat} {ro : Option Addr} {rc : Nat} {L : List Int} {A : Array Value} {Q : Exit → Act → World → Prop} {rest : Code} {pb rs pin x ex y ey pp pg pq ph sm : Value}
    (hx : OwnY W base (some ⟨g, 0, none⟩) xc L) (hr : Rb W ro L) (bl : Bs L) (nl : L.length ≤ 140737488355328) (hF : Fy A (.slice ro L.length rc) pb rs pin (.slice (some ⟨g, 0, none⟩) L.length xc) x ex y ey pp pg pq ph sm)
    (hC : ∀ (A' : Array Value) (W' : World), Fy A' (.slice ro L.length rc) pb rs pin (.slice (some ⟨g, 0, none⟩) L.length xc) x ex y ey pp pg pq ph (.bool true) → W.grownBy W' (some g) → Code.wp Try.prog rest Q ⟨A', []⟩ W') :
    Code.wp Try.prog (.seq (by_ [true, true, true, true, true, true, true, true, false]) (.seq (by_ [true, true, true, true, true, true, true, true, true, false]) rest)) Q ⟨A, []⟩ W := by
  have HD := Lib.hid (sameBytes_any (some ⟨g, 0, none⟩) ro L L xc rc W hx.rb hr bl bl)
  rw [show decide (L = L) = true by simp] at HD
  have HO := Lib.hid (overBytes_any hx (by omega))
  have HC := Lib.hid hC
  obtain ⟨v, rfl⟩ := hF.open
  clear hC hF hx hr bl nl
  conv => arg 2; arg 1; whnf
  conv => arg 2; arg 2; arg 1; whnf
  go_wp2_with fail
  refine HD.out.mono ?_
  rintro e w5 ⟨rfl, rfl⟩
  go_wp2_with fail
  refine HO.out.mono ?_
  rintro e w5 ⟨rfl, hg⟩
  have HG := Lib.hid hg
  clear hg
  go_wp2_with fail
  exact HC.out _ _ ⟨by simp, rfl, rfl, rfl, rfl, rfl, rfl, rfl, rfl, rfl, rfl, rfl, rfl, rfl, rfl⟩ HG.out

set_option maxRecDepth 100000 in
set_option maxHeartbeats 1600000 in
theorem bR12 {W : World} {p g q h : Nat} {R : Bk} {lp lq : Option Addr} {cp cq : Nat} {e1 e2 : Int} {A : Array Value} {Q : Exit → Act → World → Prop} {rest : Code} {raw pb rs pin own x ex y ey : Value}
    (hP : Bv W p R lp cp) (hQ : Bv W q R lq cq) (nR : R.L.length ≤ 9223372036854775807) (hg : W.heap[g]? = some (.cells #[.int .i64 e1, .int .i64 e2] 49 (0, 0))) (hh : W.heap[h]? = some (.cells #[.int .i64 e1, .int .i64 e2] 49 (0, 0)))
    (hF : Fy A raw pb rs pin own x ex y ey (.pointer (some ⟨p, 0, none⟩)) (.pointer (some ⟨g, 0, none⟩)) (.pointer (some ⟨q, 0, none⟩)) (.pointer (some ⟨h, 0, none⟩)) (.bool true))
    (hC : ∀ (A' : Array Value) (W' : World), Fy A' raw pb (.bool true) pin own x ex y ey (.pointer (some ⟨p, 0, none⟩)) (.pointer (some ⟨g, 0, none⟩)) (.pointer (some ⟨q, 0, none⟩)) (.pointer (some ⟨h, 0, none⟩)) (.bool true) → Below W.heap.size W W' → Code.wp Try.prog rest Q ⟨A', []⟩ W') :
    Code.wp Try.prog (.seq (by_ [true, true, true, true, true, true, true, true, true, true, false]) rest) Q ⟨A, []⟩ W := by
  have HS := Lib.hid (sameBank_any lp lq R R cp cq W hP.rd hQ.rd nR nR)
  rw [show decide (R = R) = true by simp] at HS
  have HP := Lib.hid (fun W' (hb : Below W.heap.size W W') => And.intro ((hb.block g (lt_of_block hg)).trans hg) ((hb.block h (lt_of_block hh)).trans hh))
  obtain ⟨a0, a1, a2, a3, a4, _⟩ := five hP.hb
  obtain ⟨b0, b1, b2, b3, b4, _⟩ := five hQ.hb
  have HC := Lib.hid hC
  obtain ⟨v, rfl⟩ := hF.open
  clear hC hF hP hQ hg hh
  conv => arg 2; arg 1; whnf
  go_wp2_with fail
  refine HS.out.mono ?_
  rintro e w5 ⟨rfl, hb⟩
  obtain ⟨f0, f1⟩ := HP.out _ hb
  obtain ⟨c0, c1, _⟩ := two f0
  obtain ⟨d0, d1, _⟩ := two f1
  have HB := Lib.hid hb
  clear hb f0 f1
  go_wp2_with fail
  refine (awake_any w5).mono ?_
  rintro e w6 ⟨rfl, hb⟩
  have HB2 := Lib.hid (HB.out.trans (hb.mono HB.out.size))
  clear hb
  go_wp2_with fail
  exact HC.out _ _ ⟨by simp, rfl, rfl, rfl, rfl, rfl, rfl, rfl, rfl, rfl, rfl, rfl, rfl, rfl, rfl⟩ HB2.out
end Go.Proofs.Ytjiffflhedekfaa
end
section
/- A frame of 84 slots: what of it is known at a cut. -/
namespace Go.Proofs.Ytjiffflhedekfaa
open Go.RowKit
set_option maxRecDepth 100000
structure Fz (A : Array Value) (bk raw : Value) : Prop where
  size : A.size = 84
  h0 : A[0]? = some bk
  h1 : A[1]? = some raw
theorem Fz.lit (u : Nat → Value) : ((List.range 84).map u).toArray = List.toArray (u 0 :: u 1 :: u 2 :: u 3 :: u 4 :: u 5 :: u 6 :: u 7 :: u 8 :: u 9 :: u 10 :: u 11 :: u 12 :: u 13 :: u 14 :: u 15 :: u 16 :: u 17 :: u 18 :: u 19 :: u 20 :: u 21 :: u 22 :: u 23 :: u 24 :: u 25 :: u 26 :: u 27 :: u 28 :: u 29 :: u 30 :: u 31 :: u 32 :: u 33 :: u 34 :: u 35 :: u 36 :: u 37 :: u 38 :: u 39 :: u 40 :: u 41 :: u 42 :: u 43 :: u 44 :: u 45 :: u 46 :: u 47 :: u 48 :: u 49 :: u 50 :: u 51 :: u 52 :: u 53 :: u 54 :: u 55 :: u 56 :: u 57 :: u 58 :: u 59 :: u 60 :: u 61 :: u 62 :: u 63 :: u 64 :: u 65 :: u 66 :: u 67 :: u 68 :: u 69 :: u 70 :: u 71 :: u 72 :: u 73 :: u 74 :: u 75 :: u 76 :: u 77 :: u 78 :: u 79 :: u 80 :: u 81 :: u 82 :: u 83 :: []) := by kernel_rfl
theorem Fz.any (A : Array Value) (h : A.size = 84) : ∃ u : Nat → Value, A = ((List.range 84).map u).toArray := by
  refine ⟨fun i => A.getD i undef, ?_⟩
  apply Array.ext
  · simp [h]
  · intro i h1 h2
    simp [h1]
theorem Fz.open {A : Array Value} {bk raw : Value} (h : Fz A bk raw) : ∃ u : Nat → Value, A = List.toArray (bk :: raw :: u 2 :: u 3 :: u 4 :: u 5 :: u 6 :: u 7 :: u 8 :: u 9 :: u 10 :: u 11 :: u 12 :: u 13 :: u 14 :: u 15 :: u 16 :: u 17 :: u 18 :: u 19 :: u 20 :: u 21 :: u 22 :: u 23 :: u 24 :: u 25 :: u 26 :: u 27 :: u 28 :: u 29 :: u 30 :: u 31 :: u 32 :: u 33 :: u 34 :: u 35 :: u 36 :: u 37 :: u 38 :: u 39 :: u 40 :: u 41 :: u 42 :: u 43 :: u 44 :: u 45 :: u 46 :: u 47 :: u 48 :: u 49 :: u 50 :: u 51 :: u 52 :: u 53 :: u 54 :: u 55 :: u 56 :: u 57 :: u 58 :: u 59 :: u 60 :: u 61 :: u 62 :: u 63 :: u 64 :: u 65 :: u 66 :: u 67 :: u 68 :: u 69 :: u 70 :: u 71 :: u 72 :: u 73 :: u 74 :: u 75 :: u 76 :: u 77 :: u 78 :: u 79 :: u 80 :: u 81 :: u 82 :: u 83 :: []) := by
  obtain ⟨u, hu⟩ := Fz.any A h.size
  refine ⟨u, ?_⟩
  have g : ∀ i, i < 84 → A[i]? = some (u i) := fun i hi => by rw [hu]; simp [hi]
  have e0 := Option.some.inj ((g 0 (by omega)).symm.trans h.h0)
  have e1 := Option.some.inj ((g 1 (by omega)).symm.trans h.h1)
  subst e0 e1
  rw [hu]
  exact Fz.lit u
end Go.Proofs.Ytjiffflhedekfaa
end
section
/- BankBytes: the function. -/
namespace Go.Proofs.Ytjiffflhedekfaa
open Go.RowKit

set_option maxRecDepth 100000 in
set_option maxHeartbeats 3200000 in
theorem bIn {ao ro : Option Addr} {B : Bk} {raw : List Int} {c rc : Nat} {w : World} {A : Array Value} {Q : Exit → Act → World → Prop} {rest : Code}
    (hB : Rd w ao B.L) (nB : B.L.length ≤ 70) (hR : Rb w ro raw) (nR : raw.length ≤ 800)
    (hF : Fz A (.agg #[.slice ao B.L.length c, .int .u64 B.p0, .int .u64 B.p1, .int .u64 B.p2, .int .u64 B.p3]) (.slice ro raw.length rc))
    (hC : ∀ (A' : Array Value) (W' : World) (b bi g ci cg : Nat) (ai : Option Addr) (x ex y ey pp pg pq ph sm : Value), Fy A' (.slice ro raw.length rc) (.pointer (some ⟨b, 0, none⟩)) (.bool false) (.pointer (some ⟨bi, 0, none⟩)) (.slice (some ⟨g, 0, none⟩) raw.length cg) x ex y ey pp pg pq ph sm →
      Below w.heap.size w W' → Bv W' b B ao c → Bv W' bi B ai ci → OwnY W' w.heap.size (some ⟨g, 0, none⟩) cg raw → Code.wp Try.prog rest Q ⟨A', []⟩ W') :
    Code.wp Try.prog (.seq (by_ [false]) (.seq (by_ [true, false]) (.seq (by_ [true, true, false]) rest))) Q ⟨A, []⟩ w := by
  have HC := Lib.hid hC
  have HB := Lib.hid hB
  have HR := Lib.hid hR
  have C1 := Lib.hid (fun W (h : Below w.heap.size w W) => copyBank_any ao B c W (hB.below h) (by omega))
  have C2 := Lib.hid (fun W (h : Below w.heap.size w W) => copyBytes_any ro raw rc W (hR.below h) (by omega))
  obtain ⟨v, rfl⟩ := hF.open
  clear hC hF hB hR
  conv => arg 2; arg 1; whnf
  conv => arg 2; arg 2; arg 1; whnf
  conv => arg 2; arg 2; arg 2; arg 1; whnf
  go_wp2_with fail
  refine (C1.out _ ((Below.refl _ _).alloc (Nat.le_refl _) _)).mono ?_
  rintro e w1 ⟨ga, ca, rfl, hown, hb⟩
  have hz1 : w.heap.size < w1.heap.size := by have := hb.size; simp at this; omega
  have hb1 : Below w.heap.size w w1 := ((Below.refl _ _).alloc (Nat.le_refl _) _).trans (hb.mono (by simp))
  have hbb := (hb.block w.heap.size (by simp)).trans (heap_at w (.cells #[.slice ao B.L.length c, .int .u64 B.p0, .int .u64 B.p1, .int .u64 B.p2, .int .u64 B.p3] 26) rfl)
  have HB1 := Lib.hid hb1
  have HV := Lib.hid (⟨hbb, HB.out.below hb1⟩ : Bv w1 w.heap.size B ao c)
  have HO := Lib.hid hown.rd
  clear hown hb hb1 hbb
  go_wp2_with fail
  refine (C2.out _ HB1.out).mono ?_
  rintro e w2 ⟨g, cg, rfl, hown, hb⟩
  have HB2 := Lib.hid hb
  have HY := Lib.hid (hown.mono (show w.heap.size ≤ w1.heap.size by omega))
  clear hown hb
  go_wp2_with fail
  refine HC.out _ _ w.heap.size w2.heap.size g ca cg (some ⟨ga, 0, none⟩) _ _ _ _ _ _ _ _ _ ⟨by simp, rfl, rfl, rfl, rfl, rfl, rfl, rfl, rfl, rfl, rfl, rfl, rfl, rfl, rfl⟩ ?_ ?_ ?_ ?_
  · exact (HB1.out.trans (HB2.out.mono (by omega))).alloc (by have := HB2.out.size; omega) _
  · exact (HV.out.step HB2.out).step ((Below.refl _ _).alloc (Nat.le_refl _) _)
  · exact ⟨heap_at w2 _ rfl, (HO.out.below HB2.out).alloc _⟩
  · exact HY.out.alloc _

theorem Bv.grown {W W' : World} {b : Nat} {B : Bk} {base : Nat} {ao : Option Addr} {c g : Nat} {l : List Int} {xc : Nat} (hb : W.heap[b]? = some (.cells #[.slice ao B.L.length c, .int .u64 B.p0, .int .u64 B.p1, .int .u64 B.p2, .int .u64 B.p3] 26 (0, 0))) (ho : OwnW W base ao c B.L) (hy : OwnY W base (some ⟨g, 0, none⟩) xc l) (hg : W.grownBy W' (some g)) : Bv W' b B ao c := by
  obtain ⟨cs, m, ht⟩ : ∃ cs m, W.heap[g]? = some (.cells cs 5 m) := by
    rcases hy.2 with ⟨h1, _⟩ | ⟨g', cap', cur, h1, _, h3, _⟩
    · simp at h1
    · simp only [Value.slice.injEq, Option.some.injEq, Addr.mk.injEq, true_and] at h1
      rw [h1.1.1]; exact ⟨_, _, h3⟩
  refine ⟨(hg.block b (lt_of_block hb) (fun e => ne_of_types hb ht (by decide) (by cases e; rfl))).trans hb, (ho.grown hg (fun q e => by cases e; exact ⟨cs, 5, m, ht, by decide⟩)).rd⟩
theorem pair_grown {W W' : World} {b : Nat} {base : Nat} {g : Nat} {l : List Int} {xc : Nat} {u v : Value} (hb : W.heap[b]? = some (.cells #[u, v] 49 (0, 0))) (hy : OwnY W base (some ⟨g, 0, none⟩) xc l) (hg : W.grownBy W' (some g)) : W'.heap[b]? = some (.cells #[u, v] 49 (0, 0)) := by
  obtain ⟨cs, m, ht⟩ : ∃ cs m, W.heap[g]? = some (.cells cs 5 m) := by
    rcases hy.2 with ⟨h1, _⟩ | ⟨g', cap', cur, h1, _, h3, _⟩
    · simp at h1
    · simp only [Value.slice.injEq, Option.some.injEq, Addr.mk.injEq, true_and] at h1
      rw [h1.1.1]; exact ⟨_, _, h3⟩
  exact (hg.block b (lt_of_block hb) (fun e => ne_of_types hb ht (by decide) (by cases e; rfl))).trans hb

theorem readR_len {raw : List Int} {R : Bk} {e1 e2 : Int} (bl : Bs raw) (h : readR raw = (R, e1, e2)) : R.L.length ≤ 64 := by
  have hn := nR_ok (S := ⟨raw, 0, none⟩) ⟨bl, Nat.zero_le _⟩
  have hk := (uN_ok hn.1 (nR ⟨raw, 0, none⟩).1.toNat).2.2.1
  have hB : (readB raw).1.L.length ≤ 64 := by
    show (uN (nR ⟨raw, 0, none⟩).1.toNat (nR ⟨raw, 0, none⟩).2).1.length ≤ 64
    rw [hk]; have := hn.2.2.1; omega
  have hR : R = (readR raw).1 := by rw [h]
  rw [hR]
  unfold readR
  split
  · simp [B0]
  split
  · simp [B0]
  · exact hB

set_option maxRecDepth 100000 in
set_option maxHeartbeats 3200000 in
theorem bankBytes_near (ao ro : Option Addr) (B : Bk) (raw : List Int) (c rc : Nat) (w : World) (hB : Rd w ao B.L) (hw : B.Wf) (nB : B.L.length ≤ 70) (hR : Rb w ro raw) (bR : Bs raw) (nR : raw.length ≤ 800) :
    Calls Try.prog 4 #[.agg #[.slice ao B.L.length c, .int .u64 B.p0, .int .u64 B.p1, .int .u64 B.p2, .int .u64 B.p3], .slice ro raw.length rc] w fun e w' => e = .returned (.bool true) ∧ Below w.heap.size w w' := by
  go_enter Try.func4, Try.ntmps4
  change Code.wp Try.prog (.seq (by_ [false]) (.seq (by_ [true, false]) (.seq (by_ [true, true, false]) (.seq (by_ [true, true, true, false]) (.seq (by_ [true, true, true, true, false]) (.seq (by_ [true, true, true, true, true, false]) (.seq (by_ [true, true, true, true, true, true, false]) (.seq (by_ [true, true, true, true, true, true, true, false])
    (.seq (by_ [true, true, true, true, true, true, true, true, false]) (.seq (by_ [true, true, true, true, true, true, true, true, true, false]) (.seq (by_ [true, true, true, true, true, true, true, true, true, true, false]) (by_ [true, true, true, true, true, true, true, true, true, true, true])))))))))))) _ _ _
  refine bIn hB nB hR nR ⟨by simp, rfl, rfl⟩ ?_
  intro A W b bi g ci cg ai x ex y ey pp pg pq ph sm hF hb hV hI hY
  refine bR4 hI hw (by omega) hF fun A1 W1 xo xc hF hb1 hx => ?_
  refine bR5 (hV.step hb1) hw (by omega) hF fun A2 W2 yo yc hF hb2 hy => ?_
  have hb12 := hb1.trans (hb2.mono hb1.size)
  refine bR6 (hV.step hb12) (hI.step hb12) (by omega) (hx.below hb2) hy (bytesA_bs hw) hF fun A3 W3 hF hb3 => ?_
  have hb13 := hb12.trans (hb3.mono hb12.size)
  have hw3 := hb.trans (hb13.mono hb.size)
  have hY3 := hY.below hb13
  cases hRR : readR raw with
  | mk R e =>
    obtain ⟨e1, e2⟩ := e
    refine bR8 hY3.rb bR (by omega) hRR hF fun A4 W4 p q la lc hF hb4 hP hq => ?_
    refine bR9 (hR.below (hw3.trans (hb4.mono hw3.size))) bR (by omega) hRR hF fun A5 W5 p' q' la' lc' hF hb5 hP' hq' => ?_
    have hw5 := (hw3.trans (hb4.mono hw3.size)).trans (hb5.mono (Nat.le_trans hw3.size hb4.size))
    have hY5 := (hY3.below hb4).below hb5
    have hlo := (hY5.low _ rfl).1
    refine bR10 hY5 (hR.below hw5) bR (by omega) hF fun A6 W6 hF hg => ?_
    have hP5 := hP.step hb5
    have k0 : w.heap.size ≤ W4.heap.size := Nat.le_trans hw3.size hb4.size
    have hw6 := hw5.grown hg hw5.size (fun k e => by cases e; exact hlo)
    have hRl := readR_len bR hRR
    refine bR12 (Bv.grown hP5.hb (hP5.own.mono hw3.size) hY5 hg) (Bv.grown hP'.hb (hP'.own.mono k0) hY5 hg) (by omega) (pair_grown ((hb5.block _ (lt_of_block hq)).trans hq) hY5 hg) (pair_grown hq' hY5 hg) hF fun A7 W7 hF hb7 => ?_
    obtain ⟨v, rfl⟩ := hF.open
    conv => arg 2; whnf
    go_wp2_with fail
    go_ret
    exact ⟨rfl, hw6.trans (hb7.mono hw6.size)⟩

set_option maxRecDepth 100000 in
set_option maxHeartbeats 3200000 in
theorem bankBytes_far (ao ro : Option Addr) (n m c rc : Nat) (p0 p1 p2 p3 : Int) (w : World) (h : 70 < n ∨ 800 < m) (nl : n ≤ 9223372036854775807) (nm : m ≤ 9223372036854775807) :
    Calls Try.prog 4 #[.agg #[.slice ao n c, .int .u64 p0, .int .u64 p1, .int .u64 p2, .int .u64 p3], .slice ro m rc] w fun e w' => e = .returned (.bool true) ∧ Below w.heap.size w w' := by
  by_cases h1 : 70 < n
  · clear h
    go_enter Try.func4, Try.ntmps4
    go_wp2_with fail
    refine (awake_any _).mono ?_
    rintro e w1 ⟨rfl, hb⟩
    have HB := Lib.hid hb
    clear hb
    go_wp2_with fail
    go_ret
    exact ⟨rfl, ((Below.refl _ _).alloc (Nat.le_refl _) _).trans (HB.out.mono (by simp))⟩
  · have h2 : 800 < m := by omega
    have h3 : n ≤ 70 := by omega
    clear h h1
    go_enter Try.func4, Try.ntmps4
    go_wp2_with fail
    refine (awake_any _).mono ?_
    rintro e w1 ⟨rfl, hb⟩
    have HB := Lib.hid hb
    clear hb
    go_wp2_with fail
    go_ret
    exact ⟨rfl, ((Below.refl _ _).alloc (Nat.le_refl _) _).trans (HB.out.mono (by simp))⟩
end Go.Proofs.Ytjiffflhedekfaa
end
