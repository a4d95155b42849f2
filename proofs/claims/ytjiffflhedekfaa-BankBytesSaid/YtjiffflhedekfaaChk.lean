/- The walks of the checks: bank.sum, distraintref09.all, both Checks. -/
import Derived.Test.YtjiffflhedekfaaSum
import Derived.Test.YtjiffflhedekfaaBk
import Derived.StillTailTactics
namespace Go.Proofs.Ytjiffflhedekfaa
open Go.RowKit

/-- May that be a supply? -/
def sup (n : Int) : Bool := decide (n ≤ 4611686018427387904)
def supV (n : Int) : Int := if sup n then n else 0
def supE (n : Int) : Int := if sup n then 0 else 12
theorem sup_of {n : Int} (h : n ≤ 4611686018427387904) : sup n = true := by simpa [sup] using h
theorem sup_not {n : Int} (h : 4611686018427387904 < n) : sup n = false := by simp [sup]; omega

/-- A list of lists: where each lies, its capacity, its words. -/
abbrev Ls := List (Option Addr × Nat × List Int)
def tot (ls : Ls) : Int := (ls.map fun x => x.2.2.sum).sum
theorem tot_take (ls : Ls) (k : Nat) (hk : k < ls.length) : tot (ls.take (k + 1)) = tot (ls.take k) + ls[k].2.2.sum := by
  rw [List.take_succ_eq_append_getElem hk]; simp only [tot, List.map_append, List.sum_append, List.map_cons, List.map_nil, List.sum_cons, List.sum_nil]; omega
theorem tot_nonneg {ls : Ls} (h : ∀ x ∈ ls, Ws x.2.2) : 0 ≤ tot ls := by
  induction ls with
  | nil => simp [tot]
  | cons a l ih => have := (h a (by simp)).sum_nonneg; have := ih (fun x hx => h x (by simp [hx])); simp [tot] at *; omega
theorem tot_le {ls : Ls} (h : ∀ x ∈ ls, Ws x.2.2) (k : Nat) : tot (ls.take k) ≤ tot ls := by
  have := tot_nonneg (ls := ls.drop k) (fun x hx => h x (List.mem_of_mem_drop hx))
  have e : tot ls = tot (ls.take k) + tot (ls.drop k) := by
    simp only [tot]; rw [← List.sum_append, ← List.map_append, List.take_append_drop]
  omega

set_option maxHeartbeats 1600000 in
/-- bank.sum. -/
theorem bsum_any (g o : Nat) (ls : Ls) (c : Nat) (w : World) (hc : ∀ k (h : k < ls.length), w.cell? ⟨g, o + k, none⟩ = some (.slice ls[k].1 ls[k].2.2.length ls[k].2.1))
    (hR : ∀ x ∈ ls, Rd w x.1 x.2.2) (hW : ∀ x ∈ ls, Ws x.2.2) (hN : ∀ x ∈ ls, x.2.2.length ≤ 9223372036854775807) (nl : ls.length ≤ 9223372036854775807) :
    Calls Try.prog 45 #[.slice (some ⟨g, o, none⟩) ls.length c] w fun e w' => e = .returned (.tuple #[.int .u64 (supV (tot ls)), .int .i64 (supE (tot ls))]) ∧ w = w' := by
  go_enter Try.func45, Try.ntmps45
  go_wp2_with fail
  go_loop [4, 11] (fun n i => ∃ k : Nat, k ≤ ls.length ∧ i = .int .i64 k ∧ n = .int .u64 (tot (ls.take k)) ∧ tot (ls.take k) ≤ 4611686018427387904)
    (fun _ i => ls.length - (intOf i).toNat)
  case atStart => exact ⟨0, Nat.zero_le _, rfl, rfl, by simp [tot]⟩
  case round =>
    obtain ⟨k, hk, rfl, rfl, hs⟩ := hrel
    have hs0 : 0 ≤ tot (ls.take k) := tot_nonneg (fun x hx => hW x (List.mem_of_mem_take hx))
    by_cases hlt : k < ls.length
    · have hcx := hc k hlt
      have hmem := List.getElem_mem hlt
      have hrx := hR _ hmem
      have hwx := hW _ hmem
      have hnx := hN _ hmem
      have hts := tot_take ls k hlt
      have htl := tot_le hW (k + 1)
      clear hc hR hW hN hmem
      generalize ls[k] = x at *
      obtain ⟨ao, d, l⟩ := x
      dsimp only at *
      have hl0 := hwx.sum_nonneg
      generalize tot (ls.take k) = s at *
      generalize hs' : tot (ls.take (k + 1)) = s' at *
      have HS := Lib.hid hts
      have HS' := Lib.hid hs'
      clear hts hs'
      have hsw : W64 s := ⟨hs0, by omega⟩
      by_cases hb : 18446744073709551615 < l.sum
      · have e1 : sumV l.sum = 0 := by simp [sumV, big_of hb]
        have e2 : sumE l.sum = 12 := by simp [sumE, big_of hb]
        have H3 := Lib.hid (show supV (tot ls) = 0 by have := HS.out; simp [supV, sup_not (show 4611686018427387904 < tot ls by omega)])
        have H4 := Lib.hid (show supE (tot ls) = 12 by have := HS.out; simp [supE, sup_not (show 4611686018427387904 < tot ls by omega)])
        go_wp2_with (go_at_call 69; refine (sum_any ao l d _ hwx hrx hnx).mono ?_; rintro e w' ⟨rfl, rfl⟩)
        go_ret2
        exact ⟨by rw [H3.out, H4.out]; rfl, rfl⟩
      · have e1 : sumV l.sum = l.sum := by simp [sumV, big_not (show l.sum ≤ 18446744073709551615 by omega)]
        have e2 : sumE l.sum = 0 := by simp [sumE, big_not (show l.sum ≤ 18446744073709551615 by omega)]
        have HL := Lib.hid (sum_any ao l d w hwx hrx hnx)
        generalize l.sum = t at *
        have htw : W64 t := ⟨hl0, by omega⟩
        by_cases hb2 : 18446744073709551615 < s + t
        · have e3 : sumV (s + t) = 0 := by simp [sumV, big_of hb2]
          have e4 : sumE (s + t) = 12 := by simp [sumE, big_of hb2]
          have H3 := Lib.hid (show supV (tot ls) = 0 by have := HS.out; simp [supV, sup_not (show 4611686018427387904 < tot ls by omega)])
          have H4 := Lib.hid (show supE (tot ls) = 12 by have := HS.out; simp [supE, sup_not (show 4611686018427387904 < tot ls by omega)])
          go_wp2_with (first | (go_at_call 69; refine HL.out.mono ?_; rintro e w' ⟨rfl, rfl⟩) | (go_at_call 70; refine (add_any s t hsw htw _).mono ?_; rintro e w' ⟨rfl, rfl⟩))
          go_ret2
          exact ⟨by rw [H3.out, H4.out]; rfl, rfl⟩
        · have e3 : sumV (s + t) = s + t := by simp [sumV, big_not (show s + t ≤ 18446744073709551615 by omega)]
          have e4 : sumE (s + t) = 0 := by simp [sumE, big_not (show s + t ≤ 18446744073709551615 by omega)]
          by_cases hb3 : 4611686018427387904 < s + t
          · have H3 := Lib.hid (show supV (tot ls) = 0 by have := HS.out; simp [supV, sup_not (show 4611686018427387904 < tot ls by omega)])
            have H4 := Lib.hid (show supE (tot ls) = 12 by have := HS.out; simp [supE, sup_not (show 4611686018427387904 < tot ls by omega)])
            go_wp2_with (first | (go_at_call 69; refine HL.out.mono ?_; rintro e w' ⟨rfl, rfl⟩) | (go_at_call 70; refine (add_any s t hsw htw _).mono ?_; rintro e w' ⟨rfl, rfl⟩))
            go_ret2
            exact ⟨by rw [H3.out, H4.out]; rfl, rfl⟩
          · go_wp2_with (first | (go_at_call 69; refine HL.out.mono ?_; rintro e w' ⟨rfl, rfl⟩) | (go_at_call 70; refine (add_any s t hsw htw _).mono ?_; rintro e w' ⟨rfl, rfl⟩))
            go_round
            case rel => exact ⟨k + 1, by omega, by go_num, by rw [HS'.out, HS.out], by rw [HS'.out, HS.out]; omega⟩
            case measure => simp [intOf]; omega
    · have hke : ls.take k = ls := List.take_of_length_le (by omega)
      rw [hke] at hs ⊢
      have H3 := Lib.hid (show supV (tot ls) = tot ls by simp [supV, sup_of hs])
      have H4 := Lib.hid (show supE (tot ls) = 0 by simp [supE, sup_of hs])
      clear hke hc hR hW hN
      go_wp2
      go_ret2
      exact ⟨by rw [H3.out, H4.out]; rfl, rfl⟩

/-- All amounts of a bank. -/
def Bk.all (B : Bk) : List Int := B.L ++ [B.p0, B.p1, B.p2, B.p3]
def Bk.tot (B : Bk) : Int := B.L.sum + (B.p0 + (B.p1 + (B.p2 + B.p3)))
theorem Bk.sum_all (B : Bk) : B.all.sum = B.tot := by simp [Bk.all, Bk.tot, List.sum_append]
/-- The words of a bank. -/
structure Bk.Wf (B : Bk) : Prop where
  L : Ws B.L
  p0 : W64 B.p0
  p1 : W64 B.p1
  p2 : W64 B.p2
  p3 : W64 B.p3
theorem Bk.Wf.pools {B : Bk} (h : B.Wf) : Ws [B.p0, B.p1, B.p2, B.p3] := Ws.cons h.p0 (Ws.cons h.p1 (Ws.cons h.p2 (Ws.cons h.p3 Ws.nil)))
theorem Bk.Wf.all {B : Bk} (h : B.Wf) : Ws B.all := h.L.append h.pools
/-- What 'Check' tells. -/
def Bk.chk (B : Bk) : Int := if B.L.length = 0 then 3 else if 64 < B.L.length then 4 else if sup B.tot then 0 else 12

theorem five_at {w : World} {b : Nat} {v0 : Value} {p0 p1 p2 p3 : Int} {t : TypeId} (h : w.heap[b]? = some (.cells #[v0, .int .u64 p0, .int .u64 p1, .int .u64 p2, .int .u64 p3] t (0, 0))) {k : Nat} (hk : k < 4) :
    w.cell? ⟨b, 1 + k, none⟩ = some (.int .u64 ([p0, p1, p2, p3].getD k 0)) ∧ w.frozen? ⟨b, 1 + k, none⟩ = false := by
  obtain ⟨_, k1, k2, k3, k4, _, f1, f2, f3, f4⟩ := five h
  match k, hk with
  | 0, _ => exact ⟨k1, f1⟩
  | 1, _ => exact ⟨k2, f2⟩
  | 2, _ => exact ⟨k3, f3⟩
  | 3, _ => exact ⟨k4, f4⟩
theorem rdV_one (w : World) (v : Value) (t : TypeId) : RdV (w.alloc (.cells #[v] t)) (some ⟨w.heap.size, 0, none⟩) [v] := fun j u hu => by
  match j, hu with
  | 0, hu => simp at hu; subst hu; exact ⟨_, _, rfl, cell_of_one (heap_at w _ rfl)⟩
theorem pools_take (L : List Int) (p0 p1 p2 p3 : Int) {k : Nat} (hk : k < 4) : L ++ [p0, p1, p2, p3].take (k + 1) = (L ++ [p0, p1, p2, p3].take k) ++ [[p0, p1, p2, p3].getD k 0] := by
  match k, hk with
  | 0, _ => simp
  | 1, _ => simp
  | 2, _ => simp
  | 3, _ => simp

/-- A round that lays a value and appends it: below the owned rows nothing has turned. -/
theorem own_step {wr w2 : World} {B e : Nat} {v : Value} {n : Nat} {xs : List Value} {o : Obj} (ho : wr.ownsRow B e 1 v n xs) (hg : (wr.alloc o).grownBy w2 v.ownBlock) (hB : B ≤ wr.heap.size) : Below B wr w2 ∧ wr.heap.size + 1 ≤ w2.heap.size :=
  ⟨((Below.refl _ _).alloc hB o).grown hg (by simp; omega) (fun k hk => (ho.lt k hk).1), by have := hg.size; simpa using this⟩

set_option maxRecDepth 100000 in
set_option maxHeartbeats 800000 in
/-- distraintref09.all. -/
theorem all_any (ao : Option Addr) (B : Bk) (c : Nat) (w : World) (hB : Rd w ao B.L) (nB : B.L.length ≤ 1000000) :
    Calls Try.prog 47 #[.agg #[.slice ao B.L.length c, .int .u64 B.p0, .int .u64 B.p1, .int .u64 B.p2, .int .u64 B.p3]] w
      fun e w' => ∃ ao' cap, e = .returned (.slice ao' B.all.length cap) ∧ OwnW w' w.heap.size ao' cap B.all ∧ Below w.heap.size w w' := by
  obtain ⟨L, p0, p1, p2, p3⟩ := B
  dsimp only at *
  obtain ⟨i0, hi, hz0, hz1, hz2⟩ := info_parts Try.info23
  go_enter Try.func47, Try.ntmps47
  go_wp2_with fail
  refine (copyWords_any ao L c _ (hB.alloc _) (by omega)).mono ?_
  rintro e w1 ⟨g, cap, rfl, hown, hb⟩
  have ha : w1.heap[w.heap.size]? = some (.cells #[.slice ao L.length c, .int .u64 p0, .int .u64 p1, .int .u64 p2, .int .u64 p3] 26 (0, 0)) :=
    (hb.block _ (by simp)).trans (heap_at w _ rfl)
  have hb0 : Below w.heap.size w w1 := ((Below.refl _ _).alloc (Nat.le_refl _) _).trans (hb.mono (by simp))
  have hs1 : w.heap.size + 1 ≤ w1.heap.size := by have := hb.size; simpa using this
  have hown0 : w1.ownsRow (w.heap.size + 1) 23 1 (.slice (some ⟨g, 0, none⟩) L.length cap) (L ++ [p0, p1, p2, p3].take 0).length ((L ++ [p0, p1, p2, p3].take 0).map (Value.int .u64)) := by
    simpa [OwnW] using hown
  have HO := Lib.hid hown0
  have HA := Lib.hid ha
  have HB := Lib.hid hb0
  have HZ := Lib.hid hs1
  clear hown hown0 ha hb0 hb hs1
  go_wp2_with fail
  go_loopw [3, 4] (fun v i wr => ∃ k : Nat, k ≤ 4 ∧ i = .int .i64 k ∧ wr.ownsRow (w.heap.size + 1) 23 1 v (L ++ [p0, p1, p2, p3].take k).length ((L ++ [p0, p1, p2, p3].take k).map (Value.int .u64)) ∧
      wr.heap[w.heap.size]? = some (.cells #[.slice ao L.length c, .int .u64 p0, .int .u64 p1, .int .u64 p2, .int .u64 p3] 26 (0, 0)) ∧ Below w.heap.size w wr ∧ w.heap.size + 1 ≤ wr.heap.size) (fun _ i _ => 4 - (intOf i).toNat)
  case atStart => exact ⟨0, by omega, rfl, HO.out, HA.out, HB.out, HZ.out⟩
  case round =>
    obtain ⟨k, hk, rfl, ho, ha, hb, hs⟩ := hrel
    by_cases hlt : k < 4
    · obtain ⟨hc, _⟩ := five_at ha hlt
      have hpt := pools_take L p0 p1 p2 p3 hlt
      have hll : (L ++ [p0, p1, p2, p3].take k).length ≤ 1000004 := by simp; omega
      generalize [p0, p1, p2, p3].getD k 0 = x at *
      generalize hM : L ++ [p0, p1, p2, p3].take k = M at *
      have HP := Lib.hid hpt
      clear hpt hM
      have HA' := Lib.hid ha
      have HO' := Lib.hid ho
      have HB' := Lib.hid hb
      clear ha ho hb
      go_wp2_with (at_builtin; go_loud (refine wpList_append_src rfl (.tmp 12) (.tmp 17) 22 rfl (w.heap.size + 1) 23 i0 (.int .u64 0) 8 Try.underlying22 hi hz0 hz1 hz2 rfl _ M.length (M.map (Value.int .u64)) rfl (HO'.out.alloc _) (some ⟨wr.heap.size, 0, none⟩) 1 1 [.int .u64 x] rfl rfl (rdV_one _ _ _) (by simp [Value.oneCell']) (by simp only [maxLen]; omega) (by omega) (by simp; omega) ?_); intro v1 w2 hown1 hgrow1 hnil1 hloc1)
      obtain ⟨hb2, hs2⟩ := own_step HO'.out hgrow1 hs
      have HX := Lib.hid (show w2.ownsRow (w.heap.size + 1) 23 1 v1 (M ++ [x]).length ((M ++ [x]).map (Value.int .u64)) by simpa using hown1)
      have HY := Lib.hid ((hb2.block w.heap.size (by omega)).trans HA'.out)
      have HW := Lib.hid (HB'.out.trans (hb2.mono (by omega)))
      clear hown1 hgrow1 hnil1 hloc1 hb2
      go_wp2
      go_roundw
      case rel => exact ⟨k + 1, by omega, by go_num, by rw [HP.out]; exact HX.out, HY.out, HW.out, by omega⟩
      case measure => simp [intOf]; omega
    · have hk4 : k = 4 := by omega
      subst hk4
      have hx : wr.ownsRow (w.heap.size + 1) 23 1 u3 (Bk.all ⟨L, p0, p1, p2, p3⟩).length ((Bk.all ⟨L, p0, p1, p2, p3⟩).map (Value.int .u64)) := ho
      obtain ⟨_, ao', cap', rfl, hown⟩ := own_shape hx
      have HX := Lib.hid hown
      have HW := Lib.hid hb
      clear hown hx ho ha hb
      go_wp2
      go_ret
      exact ⟨ao', cap', rfl, HX.out.mono (by omega), HW.out⟩
end Go.Proofs.Ytjiffflhedekfaa
