/- BankMoves, the round: the two answers to a move. -/
import Derived.Test.YtjiffflhedekfaaBm1
import Derived.Deep.RegionHeld3
namespace Go.Proofs.Ytjiffflhedekfaa
open Go.RowKit
theorem Rel.rel {w W : World} {bb bi bx bY : Nat} {B : Bk} {ai ab : Option Addr} {ci cb : Nat} (h : Rel w W bb bi bx bY B ai ab ci cb) : Rel w W bb bi bx bY B ai ab ci cb := h

set_option maxRecDepth 100000 in
set_option maxHeartbeats 6400000 in
theorem pieceD1 {w W : World} {bb bi bx bY : Nat} {B X : Bk} {ai ab : Option Addr} {ci cb : Nat} {acc e f : Value} {lb lo n lc k : Nat} {what from_ to_ amt er : Int} {A : Array Value} {Q : Exit → Act → World → Prop} {rest : Code}
    (hR : Rel w W bb bi bx bY B ai ab ci cb) (hw : B.Wf) (nB : B.L.length ≤ 9223372036854775807) (hm : W64 amt) (hk : k < n) (hn : n ≤ 30) (hlb : lb < w.heap.size)
    (h0 : w.cell? ⟨lb, lo + k * 4, none⟩ = some (.int .i64 what)) (h1 : w.cell? ⟨lb, lo + k * 4 + 1, none⟩ = some (.int .i64 from_)) (h2 : w.cell? ⟨lb, lo + k * 4 + 2, none⟩ = some (.int .i64 to_)) (h3 : w.cell? ⟨lb, lo + k * 4 + 3, none⟩ = some (.int .u64 amt))
    (hX : doesR B what from_ to_ amt = (X, er))
    (hF : Fr A acc (.slice (some ⟨lb, lo, none⟩) n lc) (.pointer (some ⟨bb, 0, none⟩)) (.pointer (some ⟨bi, 0, none⟩)) (.pointer (some ⟨bx, 0, none⟩)) e (.pointer (some ⟨bY, 0, none⟩)) f (.int .i64 k))
    (hK : ∀ (A' : Array Value) (W' : World) (ax : Option Addr) (cx : Nat), Fr A' acc (.slice (some ⟨lb, lo, none⟩) n lc) (.pointer (some ⟨bb, 0, none⟩)) (.pointer (some ⟨bi, 0, none⟩)) (.pointer (some ⟨bx, 0, none⟩)) (.int .i64 er) (.pointer (some ⟨bY, 0, none⟩)) f (.int .i64 k) →
      RelX w W' bb bi bx bY B ai ab ci cb X ax cx → Code.wp Try.prog rest Q ⟨A', []⟩ W') :
    Code.wp Try.prog (.seq (bm [true, false, true, true, true, true, true, true, true, true, true, false]) rest) Q ⟨A, []⟩ W := by
  have C1 := Lib.hid (fun W' (h : Below W.heap.size W W') => does_any ai B ci what from_ to_ amt W' (hR.step h).own.rd hw nB hm)
  rw [hX] at C1
  have HK := Lib.hid hK
  have HC := Lib.hid (fun W' (h : Below w.heap.size w W') => And.intro ((h.cell hlb).trans h0) (And.intro ((h.cell hlb).trans h1) (And.intro ((h.cell hlb).trans h2) ((h.cell hlb).trans h3))))
  have hlx : lb ≠ bx := by have := hR.lo; omega
  have hix : bi ≠ bx := by have := hR.ne; omega
  clear h0 h1 h2 h3 hlb
  obtain ⟨v, rfl⟩ := hF.open
  have HR := Lib.hid hR
  have HI := Lib.hid (fun W' (h : Below W.heap.size W W') => five (hR.step h).rel.hi)
  have HX := Lib.hid (fun W' (h : Below W.heap.size W W') => (hR.step h).rel.hx)
  have HL := Lib.hid (fun W' (h : Below W.heap.size W W') => HC.out W' (hR.step h).rel.below)
  clear hK hF hR hw nB hm hX HC
  obtain ⟨a0, a1, a2, a3, a4, _⟩ := HI.out _ (Below.refl _ _)
  obtain ⟨h0, h1, h2, h3⟩ := HL.out _ (Below.refl _ _)
  conv => arg 2; arg 1; whnf
  go_wp2_with fail
  go_region_held3 (fun w' => w'.cell? ⟨bi, 0, none⟩ = some (.slice ai B.L.length ci) ∧ w'.cell? ⟨bi, 1, none⟩ = some (.int .u64 B.p0) ∧ w'.cell? ⟨bi, 2, none⟩ = some (.int .u64 B.p1) ∧ w'.cell? ⟨bi, 3, none⟩ = some (.int .u64 B.p2) ∧ w'.cell? ⟨bi, 4, none⟩ = some (.int .u64 B.p3) ∧ w'.cell? ⟨lb, lo + k * 4, none⟩ = some (.int .i64 what) ∧ w'.cell? ⟨lb, lo + k * 4 + 1, none⟩ = some (.int .i64 from_) ∧ w'.cell? ⟨lb, lo + k * 4 + 2, none⟩ = some (.int .i64 to_) ∧ w'.cell? ⟨lb, lo + k * 4 + 3, none⟩ = some (.int .u64 amt))
    (first | assumption | (refine ⟨?_, ?_, ?_, ?_, ?_, ?_, ?_, ?_, ?_⟩ <;> (simp [go_sem, hlx, hix, hlx.symm, hix.symm, a0, a1, a2, a3, a4, h0, h1, h2, h3]; done)) | go_keep)
    (first | (go_at_call 23; refine (C1.out _ (by exact (Below.refl _ _).drew)).mono ?_; rintro e' w1 ⟨ax', cx', rfl, hown, hb⟩; have hb1 := (Below.refl W.heap.size W).drew.trans hb; obtain ⟨a0, a1, a2, a3, a4, _⟩ := HI.out _ hb1; obtain ⟨h0, h1, h2, h3⟩ := HL.out _ hb1; obtain ⟨u0, u1, u2, u3, u4, hu⟩ := HX.out _ hb1; obtain ⟨x0, x1, x2, x3, x4, g0, g1, g2, g3, g4⟩ := five hu; have HB := Lib.hid (And.intro hb1 hown); clear hb hb1 hown hu))
  go_wp2_with fail
  refine HK.out _ _ ax' cx' ?_ (HR.out.setX HB.out.1 HB.out.2)
  exact ⟨rfl, rfl, rfl, rfl, rfl, rfl, rfl, rfl, rfl, rfl, rfl⟩

set_option maxRecDepth 100000 in
set_option maxHeartbeats 6400000 in
theorem pieceD2 {w W : World} {bb bi bx bY : Nat} {B X : Bk} {ai ab ax : Option Addr} {ci cb cx : Nat} {acc f : Value} {lb lo n lc k : Nat} {what from_ to_ amt er : Int} {A : Array Value} {Q : Exit → Act → World → Prop} {rest : Code}
    (hR : RelX w W bb bi bx bY B ai ab ci cb X ax cx) (hw : B.Wf) (nB : B.L.length ≤ 9223372036854775807) (hm : W64 amt) (hk : k < n) (hn : n ≤ 30) (hlb : lb < w.heap.size)
    (h0 : w.cell? ⟨lb, lo + k * 4, none⟩ = some (.int .i64 what)) (h1 : w.cell? ⟨lb, lo + k * 4 + 1, none⟩ = some (.int .i64 from_)) (h2 : w.cell? ⟨lb, lo + k * 4 + 2, none⟩ = some (.int .i64 to_)) (h3 : w.cell? ⟨lb, lo + k * 4 + 3, none⟩ = some (.int .u64 amt))
    (hX : doesR B what from_ to_ amt = (X, er))
    (hF : Fr A acc (.slice (some ⟨lb, lo, none⟩) n lc) (.pointer (some ⟨bb, 0, none⟩)) (.pointer (some ⟨bi, 0, none⟩)) (.pointer (some ⟨bx, 0, none⟩)) (.int .i64 er) (.pointer (some ⟨bY, 0, none⟩)) f (.int .i64 k))
    (hK : ∀ (A' : Array Value) (W' : World) (aY : Option Addr) (cy : Nat), Fr A' acc (.slice (some ⟨lb, lo, none⟩) n lc) (.pointer (some ⟨bb, 0, none⟩)) (.pointer (some ⟨bi, 0, none⟩)) (.pointer (some ⟨bx, 0, none⟩)) (.int .i64 er) (.pointer (some ⟨bY, 0, none⟩)) (.int .i64 er) (.int .i64 k) →
      RelXY w W' bb bi bx bY B ai ab ci cb X ax aY cx cy → Code.wp Try.prog rest Q ⟨A', []⟩ W') :
    Code.wp Try.prog (.seq (bm [true, false, true, true, true, true, true, true, true, true, true, true, false]) rest) Q ⟨A, []⟩ W := by
  have C1 := Lib.hid (fun W' (h : Below W.heap.size W W') => should_any ab B cb what from_ to_ amt W' (hR.step h).rel.rd hw nB hm)
  rw [hX] at C1
  have HK := Lib.hid hK
  have HC := Lib.hid (fun W' (h : Below w.heap.size w W') => And.intro ((h.cell hlb).trans h0) (And.intro ((h.cell hlb).trans h1) (And.intro ((h.cell hlb).trans h2) ((h.cell hlb).trans h3))))
  have hlx : lb ≠ bY := by have := hR.rel.lo; omega
  have hix : bb ≠ bY := by have := hR.rel.ne; omega
  clear h0 h1 h2 h3 hlb
  obtain ⟨v, rfl⟩ := hF.open
  have HR := Lib.hid hR
  have HI := Lib.hid (fun W' (h : Below W.heap.size W W') => five (hR.step h).rel.hb)
  have HX := Lib.hid (fun W' (h : Below W.heap.size W W') => (hR.step h).rel.hy)
  have HL := Lib.hid (fun W' (h : Below W.heap.size W W') => HC.out W' (hR.step h).rel.below)
  clear hK hF hR hw nB hm hX HC
  obtain ⟨a0, a1, a2, a3, a4, _⟩ := HI.out _ (Below.refl _ _)
  obtain ⟨h0, h1, h2, h3⟩ := HL.out _ (Below.refl _ _)
  conv => arg 2; arg 1; whnf
  go_wp2_with fail
  go_region_held3 (fun w' => w'.cell? ⟨bb, 0, none⟩ = some (.slice ab B.L.length cb) ∧ w'.cell? ⟨bb, 1, none⟩ = some (.int .u64 B.p0) ∧ w'.cell? ⟨bb, 2, none⟩ = some (.int .u64 B.p1) ∧ w'.cell? ⟨bb, 3, none⟩ = some (.int .u64 B.p2) ∧ w'.cell? ⟨bb, 4, none⟩ = some (.int .u64 B.p3) ∧ w'.cell? ⟨lb, lo + k * 4, none⟩ = some (.int .i64 what) ∧ w'.cell? ⟨lb, lo + k * 4 + 1, none⟩ = some (.int .i64 from_) ∧ w'.cell? ⟨lb, lo + k * 4 + 2, none⟩ = some (.int .i64 to_) ∧ w'.cell? ⟨lb, lo + k * 4 + 3, none⟩ = some (.int .u64 amt))
    (first | assumption | (refine ⟨?_, ?_, ?_, ?_, ?_, ?_, ?_, ?_, ?_⟩ <;> (simp [go_sem, hlx, hix, hlx.symm, hix.symm, a0, a1, a2, a3, a4, h0, h1, h2, h3]; done)) | go_keep)
    (first | (go_at_call 24; refine (C1.out _ (by exact (Below.refl _ _).drew)).mono ?_; rintro e' w1 ⟨ax', cx', rfl, hown, hb⟩; have hb1 := (Below.refl W.heap.size W).drew.trans hb; obtain ⟨a0, a1, a2, a3, a4, _⟩ := HI.out _ hb1; obtain ⟨h0, h1, h2, h3⟩ := HL.out _ hb1; obtain ⟨u0, u1, u2, u3, u4, hu⟩ := HX.out _ hb1; obtain ⟨x0, x1, x2, x3, x4, g0, g1, g2, g3, g4⟩ := five hu; have HB := Lib.hid (And.intro hb1 hown); clear hb hb1 hown hu))
  go_wp2_with fail
  refine HK.out _ _ ax' cx' ?_ (HR.out.setY HB.out.1 HB.out.2)
  exact ⟨rfl, rfl, rfl, rfl, rfl, rfl, rfl, rfl, rfl, rfl, rfl⟩
end Go.Proofs.Ytjiffflhedekfaa

