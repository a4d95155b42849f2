/- BankMoves: the way to the loop. -/
import Derived.Test.YtjiffflhedekfaaBm5
namespace Go.Proofs.Ytjiffflhedekfaa
open Go.RowKit

theorem rel_start {w w1 w2 w3 w4 w5 : World} {B R : Bk} {ab ax aY : Option Addr} {g cap cb cx cy : Nat}
    (hB1 : Below w.heap.size w w1) (hB2 : Below w1.heap.size w1 w2) (hB3 : Below w2.heap.size w2 w3) (hB4 : Below w3.heap.size w3 w4) (hg : w4.grownBy w5 (ax.map (·.block)))
    (s1 : w.heap.size + 1 ≤ w1.heap.size) (s2 : w1.heap.size + 1 ≤ w2.heap.size) (s3 : w2.heap.size + 1 ≤ w3.heap.size) (s4 : w3.heap.size + 1 ≤ w4.heap.size)
    (hO1 : OwnW w1 (w.heap.size + 1) (some ⟨g, 0, none⟩) cap B.L) (hO2 : OwnW w2 (w1.heap.size + 1) ax cx R.L)
    (k1 : w2.heap[w.heap.size]? = some (bobj ab B cb)) (k2 : w2.heap[w1.heap.size]? = some (bobj (some ⟨g, 0, none⟩) B cap)) (k3 : w4.heap[w2.heap.size]? = some (bobj ax R cx)) (k4 : w4.heap[w3.heap.size]? = some (bobj aY R cy))
    (hB : Rd w ab B.L) (hlt : ∀ q, ab = some q → B.L.length ≠ 0 → q.block < w.heap.size) :
    Rel w w5 w.heap.size w1.heap.size w2.heap.size w3.heap.size B (some ⟨g, 0, none⟩) ab cap cb := by
  have b24 : Below w2.heap.size w2 w4 := hB3.trans (hB4.mono (by omega))
  have b14 : Below w1.heap.size w1 w4 := hB2.trans (b24.mono (by omega))
  have b04 : Below w.heap.size w w4 := hB1.trans (b14.mono (by omega))
  have hal := own_lt hO2
  have hax := hO2.low
  have hg1 := own_lt hO1 _ rfl
  have hg2 := hO1.low _ rfl
  simp only at hg1 hg2
  have keep : ∀ k, k < w4.heap.size → (∀ p, ax = some p → p.block ≠ k) → w5.heap[k]? = w4.heap[k]? := fun k hk hne => hg.block k hk (fun e => by
    cases ha : ax with
    | none => rw [ha] at e; cases e
    | some p => rw [ha] at e; simp at e; exact hne p ha e.symm)
  refine ⟨b04.grown hg (by omega) (fun k hk => by
    cases ha : ax with
    | none => rw [ha] at hk; cases hk
    | some p => rw [ha] at hk; simp at hk; have := hax p ha; omega), ⟨by omega, by omega, by omega, by omega⟩, ⟨by omega, by omega, by omega, by omega, by omega, by omega⟩, ?_, ?_, ?_, ?_, ?_, ?_, ?_, ?_, ?_⟩
  · exact (keep _ (by omega) fun p hp => by have := hax p hp; omega).trans ((b24.block _ (by omega)).trans k2)
  · exact (keep _ (by omega) fun p hp => by have := hax p hp; omega).trans ((b24.block _ (by omega)).trans k1)
  · exact ⟨_, _, _, _, _, (keep _ (by omega) fun p hp => by have := hal p hp; omega).trans k3⟩
  · exact ⟨_, _, _, _, _, (keep _ (by omega) fun p hp => by have := hal p hp; omega).trans k4⟩
  · exact (own_block (hO1.below b14) (fun p hp => keep _ (by obtain rfl := Option.some.inj hp; have := b14.size; simp only; omega) (fun q hq => by obtain rfl := Option.some.inj hp; have := hax q hq; simp only; omega))).mono (by omega)
  · intro k hk
    obtain ⟨b, o, rfl, hc⟩ := hB k hk
    have hb := hlt _ rfl (by omega)
    simp only at hb
    refine ⟨b, o, rfl, ?_⟩
    have h4 := (b04.cell (p := ⟨b, o + k, none⟩) hb).trans hc
    rw [← h4]
    have := keep b (by omega) (fun p hp => by have := hax p hp; omega)
    simp only [World.cell?, this]
  · intro p hp
    obtain rfl := Option.some.inj hp
    simp only
    omega
  · intro q hq hl
    have := hlt q hq hl
    omega
  · intro p q hp hq hl
    obtain rfl := Option.some.inj hp
    have := hlt q hq hl
    simp only
    omega

set_option maxRecDepth 100000 in
set_option maxHeartbeats 3200000 in
theorem bankMoves_near (ab : Option Addr) (B : Bk) (cb : Nat) (acc : Int) (la : Option Addr) (l : List Ac) (lc n : Nat) (w : World) (hB : Rd w ab B.L) (hw : B.Wf) (nB : B.L.length ≤ 70) (hl : l.length = n) (hn : n ≤ 30) (hA : ActsAt w la l)
    (hlt : ∀ q, ab = some q → B.L.length ≠ 0 → q.block < w.heap.size) :
    Calls Try.prog 3 #[bval ab B cb, .int .i64 acc, .slice la n lc] w fun e w' => e = .returned (.bool true) ∧ Below w.heap.size w w' := by
  have HA := Lib.hid (fun W => awake_any W)
  have C1 := Lib.hid (fun W (h : Below w.heap.size w W) => copyBank_any ab B cb W (hB.below h) (by omega))
  have C2 := Lib.hid (fun ao c W (h : Rd W ao B.L) => new_any ao B.L c W h hw.L (by omega))
  have C3 := Lib.hid (fun W (h : Below w.heap.size w W) => refNew_any ab B.L cb W (hB.below h) hw.L (by omega))
  have HL := Lib.hid hl
  have HAc := Lib.hid hA
  have HLt := Lib.hid hlt
  have HB := Lib.hid hB
  have HW := Lib.hid hw
  clear hl hA hlt hB hw
  go_enter Try.func3, Try.ntmps3
  go_wp2_with fail
  refine (C1.out _ ((Below.refl _ _).alloc (Nat.le_refl _) _)).mono ?_
  rintro e w1 ⟨g, cap, rfl, hown, hb⟩
  have hs1 : w.heap.size + 1 ≤ w1.heap.size := by have := hb.size; simpa using this
  have hb1 : Below w.heap.size w w1 := ((Below.refl _ _).alloc (Nat.le_refl _) _).trans (hb.mono (by simp))
  have k1 := (hb.block w.heap.size (by simp)).trans (heap_at w (.cells #[.slice ab B.L.length cb, .int .u64 B.p0, .int .u64 B.p1, .int .u64 B.p2, .int .u64 B.p3] 26) rfl)
  have HO1 := Lib.hid hown
  have HB1 := Lib.hid hb1
  have HK1 := Lib.hid k1
  clear hb hb1 k1 hown
  go_wp2_with fail
  refine (C2.out _ cap _ (HO1.out.rd.alloc _)).mono ?_
  rintro e w2 ⟨ax, cx, rfl, hown, hb⟩
  have hs2 : w1.heap.size + 1 ≤ w2.heap.size := by have := hb.size; simpa using this
  have hb2 : Below w1.heap.size w1 w2 := ((Below.refl _ _).alloc (Nat.le_refl _) _).trans (hb.mono (by simp))
  have k2 := (hb.block w1.heap.size (by simp)).trans (heap_at w1 (.cells #[.slice (some ⟨g, 0, none⟩) B.L.length cap, .int .u64 B.p0, .int .u64 B.p1, .int .u64 B.p2, .int .u64 B.p3] 26) rfl)
  have k1 := (hb2.block w.heap.size (by omega)).trans HK1.out
  obtain ⟨a0, _⟩ := five ((heap_old w2 (.cells #[.slice ax (newR B.L).1.L.length cx, .int .u64 (newR B.L).1.p0, .int .u64 (newR B.L).1.p1, .int .u64 (newR B.L).1.p2, .int .u64 (newR B.L).1.p3] 26) (by omega)).trans k1)
  have HO2 := Lib.hid hown
  have HB2 := Lib.hid hb2
  have HK2 := Lib.hid k2
  have HK1' := Lib.hid k1
  clear hb hb2 k2 k1 hown C1 C2 HK1
  have HRl : Hid ((newR B.L).1.L.length ≤ 70) := Lib.hid (by unfold newR; split <;> simp [B0, nB])
  generalize newR B.L = R at *
  go_wp2_with fail
  refine (C3.out _ (((HB1.out.trans (HB2.out.mono (by omega))).alloc (by omega) _))).mono ?_
  rintro e w3 ⟨aY, cy, rfl, hown, hb⟩
  have hs3 : w2.heap.size + 1 ≤ w3.heap.size := by have := hb.size; simpa using this
  have hb3 : Below w2.heap.size w2 w3 := ((Below.refl _ _).alloc (Nat.le_refl _) _).trans (hb.mono (by simp))
  have k3 := (hb.block w2.heap.size (by simp)).trans (heap_at w2 (.cells #[.slice ax R.1.L.length cx, .int .u64 R.1.p0, .int .u64 R.1.p1, .int .u64 R.1.p2, .int .u64 R.1.p3] 26) rfl)
  have HO3 := Lib.hid hown
  have HB3 := Lib.hid hb3
  have HK3 := Lib.hid k3
  obtain ⟨x0, x1, x2, x3, x4, _⟩ := five ((heap_old w3 (.cells #[.slice aY R.1.L.length cy, .int .u64 R.1.p0, .int .u64 R.1.p1, .int .u64 R.1.p2, .int .u64 R.1.p3] 26) (by omega)).trans k3)
  have hRl : Hid (R.1.L.length ≤ 70) := HRl
  clear hb hb3 k3 hown C3 a0 HRl
  go_wp2_with fail
  refine (sameBank_any ax aY R.1 R.1 cx cy _ ((HO2.out.rd.below HB3.out).alloc _) (HO3.out.rd.alloc _) (by have := hRl.out; omega) (by have := hRl.out; omega)).mono ?_
  rintro e w4 ⟨rfl, hb⟩
  rw [show decide (R.1 = R.1) = true by simp]
  have hs4 : w3.heap.size + 1 ≤ w4.heap.size := by have := hb.size; simpa using this
  have hb4 : Below w3.heap.size w3 w4 := ((Below.refl _ _).alloc (Nat.le_refl _) _).trans (hb.mono (by simp))
  have k4 := (hb.block w3.heap.size (by simp)).trans (heap_at w3 (.cells #[.slice aY R.1.L.length cy, .int .u64 R.1.p0, .int .u64 R.1.p1, .int .u64 R.1.p2, .int .u64 R.1.p3] 26) rfl)
  have k3 := (hb4.block w2.heap.size (by omega)).trans HK3.out
  clear x0 x1 x2 x3 x4
  obtain ⟨x0, _⟩ := five k3
  have HK4 := Lib.hid k4
  have HB4 := Lib.hid hb4
  have HK3' := Lib.hid k3
  clear hb hb4 k4 k3 HK3
  go_wp2_with fail
  refine (overW_any (HO2.out.below (HB3.out.trans (HB4.out.mono (by omega)))) (by have := hRl.out; omega)).mono ?_
  rintro e w5 ⟨rfl, hg⟩
  have hR := Lib.hid (rel_start HB1.out HB2.out HB3.out HB4.out hg hs1 hs2 hs3 hs4 (by have := HO1.out; simpa using this) (by have := HO2.out; simpa using this) HK1'.out HK2.out HK3'.out HK4.out HB.out HLt.out)
  clear x0 hg HB1 HB2 HB3 HB4 HO1 HO2 HO3 HK1' HK2 HK3' HK4
  generalize hbb : w.heap.size = bb at *
  generalize w1.heap.size = bi at *
  generalize w2.heap.size = bx at *
  generalize w3.heap.size = bY at *
  have HBB := Lib.hid hbb
  clear hbb
  go_wp2_with fail
  change Code.wp Try.prog (.loop (bm [])) _ _ _
  refine loopAll HL.out hn HAc.out ⟨⟨_, _, ⟨rfl, rfl, rfl, rfl, rfl, rfl, rfl, rfl, rfl, rfl, rfl⟩⟩, hR.out, HW.out, nB⟩ ?_
  intro A' W' e f k' hF hb
  obtain ⟨v, rfl⟩ := hF.open
  have HB := Lib.hid hb
  clear hb hF
  go_wp2_with fail
  refine (HA.out _).mono ?_
  rintro e w6 ⟨rfl, hb6⟩
  have HF := Lib.hid (HB.out.trans (hb6.mono HB.out.size))
  clear hb6
  go_wp2_with fail
  go_ret
  exact ⟨rfl, HF.out⟩
end Go.Proofs.Ytjiffflhedekfaa
