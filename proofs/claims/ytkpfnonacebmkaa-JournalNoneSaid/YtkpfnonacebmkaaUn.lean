/- journal: Undo. -/
import Derived.Test.YtkpfnonacebmkaaCl
import Derived.Deep.LoopGhost
import Derived.Deep.QuietTactic
import Derived.BigQuiet
import Derived.LaidEqlPtr
namespace Go.Proofs.Ytkpfnonacebmkaa
open Go.RowKit

theorem unw_succ {i : Nat} {o : Int} {R : List (Nat × Int)} : ∀ (k : Nat) (U : List (Nat × Int)) (C : List Int), U.drop k = (i, o) :: R → unw (k + 1) U C = (unw k U C).set i o
  | 0, U, C, h => by
    rw [List.drop_zero] at h
    rw [h]; rfl
  | k + 1, [], C, h => by simp at h
  | k + 1, (j, x) :: U, C, h => by
    rw [unw, unw_succ k U _ (by simpa using h), unw]
theorem unw_len : ∀ (k : Nat) (U : List (Nat × Int)) (C : List Int), (unw k U C).length = C.length
  | 0, _, _ => rfl
  | _ + 1, [], _ => rfl
  | k + 1, (i, o) :: U, C => by rw [unw, unw_len k U]; simp
theorem hd_drop_ne {p : Nat} {qs : List Nat} (h : ∀ q ∈ qs, q < p) (k : Nat) : hd (qs.drop k) ≠ some ⟨p, 0, none⟩ := by
  cases hq : qs.drop k with
  | nil => simp [hd]
  | cons q rs =>
    have : q ∈ qs := List.mem_of_mem_drop (i := k) (by rw [hq]; exact List.mem_cons_self ..)
    have := h q this
    simp only [hd, ne_eq, Option.some.injEq, Addr.mk.injEq, and_true]
    omega

theorem Try.info93 : (Try.prog.info? 93).map (fun i => (i.zero, i.size, i.bytes)) = some (some (.agg #[.nilFunc, .pointer none]), 2, 16) := by kernel_rfl
theorem neq_same (a : Option Addr) (w : World) : (binOp .neq 62 (.pointer a) (.pointer a)).run Try.prog w = .ok (.bool false) w := by
  obtain ⟨i0, hi, hz0, hz1, hz2⟩ := info_parts Try.info93
  have h : ∀ d : Nat, (Op.equalIn (d + 1) 62 (.pointer a) (.pointer a)).run Try.prog w = .ok true w := fun d => by
    cases a <;> simp [Op.equalIn, run_underlying Try.underlying62, sizeOf, typeInfo, hi, run_sameAddr_same]
  simp only [binOp]
  simp [Op.equal, Op.maxDepth, h 9999]
theorem neq_node {w : World} {p : Nat} {pp : Option Addr} {ca : Array Value} {ta : TypeId} (hp : w.heap[p]? = some (.cells ca ta (0, 0))) (hq : pp = none ∨ ∃ q cb tb, pp = some ⟨q, 0, none⟩ ∧ w.heap[q]? = some (.cells cb tb (0, 0)) ∧ q ≠ p) :
    (binOp .neq 62 (.pointer (some ⟨p, 0, none⟩)) (.pointer pp)).run Try.prog w = .ok (.bool true) w := by
  obtain ⟨i0, hi, hz0, hz1, hz2⟩ := info_parts Try.info93
  have h : ∀ d : Nat, (Op.equalIn (d + 1) 62 (.pointer (some ⟨p, 0, none⟩)) (.pointer pp)).run Try.prog w = .ok false w := fun d => by
    rcases hq with rfl | ⟨q, cb, tb, rfl, h1, h2⟩
    · simp [Op.equalIn, run_underlying Try.underlying62]
    · have hne : (⟨p, 0, none⟩ : Addr) ≠ ⟨q, 0, none⟩ := fun e => h2 (congrArg Addr.block e).symm
      simp [Op.equalIn, run_underlying Try.underlying62, sizeOf, typeInfo, hi, hz1, run_sameAddr_other w hne hp h1]
  simp only [binOp]
  simp [Op.equal, Op.maxDepth, h 9999]

theorem Chain.node {W : World} {ok : Nat → Prop} : ∀ {ps : List Nat} {U : List (Nat × Int)}, Chain W ok ps U → ∀ q ∈ ps, ∃ cs, W.heap[q]? = some (.cells cs 93 (0, 0))
  | [], [], _ => by simp
  | p :: ps, _ :: _, ⟨⟨ib, ob, h1, _⟩, _, h8⟩ => fun q hq => by
    rcases List.mem_cons.1 hq with rfl | hq
    · exact ⟨_, h1⟩
    · exact Chain.node h8 q hq
  | [], _ :: _, h => absurd h (by simp [Chain])
  | _ :: _, [], h => absurd h (by simp [Chain])

/-- Undo. -/
def JS.undo (J : JS) : JS × Int :=
  match J.L with
  | [] => (J, 11)
  | (m, _) :: L' => (⟨unw (J.U.length - m) J.U J.C, J.U.drop (J.U.length - m), L'⟩, 0)

set_option maxHeartbeats 400000 in
/-- put's func. -/
theorem back_any {W : World} {cb cc n ib ob i : Nat} {o x : Int} (hi : i < n) (hn : n ≤ 4096) (hib : W.heap[ib]? = some (.cells #[.int .i64 i] 3 (0, 0))) (hob : W.heap[ob]? = some (.cells #[.int .u64 o] 33 (0, 0)))
    (hc : W.cell? ⟨cb, i, none⟩ = some (.int .u64 x)) (hf : W.frozen? ⟨cb, i, none⟩ = false) :
    Calls Try.prog 66 #[.slice (some ⟨cb, 0, none⟩) n cc, .pointer (some ⟨ob, 0, none⟩), .pointer (some ⟨ib, 0, none⟩)] W fun e w' => e = .returned (.tuple #[]) ∧ w' = W.setCell ⟨cb, i, none⟩ (.int .u64 o) := by
  have c1 := (one hib).1
  have c2 := (one hob).1
  clear hib hob
  go_enter Try.func66, Try.ntmps66
  go_wp2
  go_end0
  exact ⟨rfl, rfl⟩

section
variable {W : World} {M F : Nat → Prop} {r : Nat} {J : JS} {cb cc : Nat} {ps : List Nat}
/-- In the loop: so many rounds are to come. -/
def UndoR (W : World) (M F : Nat → Prop) (r : Nat) (J : JS) (L' : List (Nat × List Nat)) (cb cc : Nat) (ps : List Nat) (lv : Value) (bs : List Nat) (tb : Nat) (pp : Option Addr) (b m : Nat) (n : Nat) (_ : Value) (wr : World) : Prop :=
  ∃ k, k + n = J.U.length - m ∧ Jg wr M F r ⟨unw k J.U J.C, J.U.drop k, L'⟩ cb cc (ps.drop k) lv bs ∧ wr.heap[tb]? = some (.cells #[.pointer pp, .map (some b)] 73 (0, 0)) ∧ Stp W wr M M F F

set_option maxRecDepth 100000 in
set_option maxHeartbeats 1600000 in
theorem undo_none (h : Jn W M F r J) (hL : J.L = []) :
    Calls Try.prog 34 #[.pointer (some ⟨r, 0, none⟩)] W fun e w' => e = .returned (.int .i64 11) ∧ Below W.heap.size W w' := by
  have HC := Lib.hid (close_none h hL)
  clear h hL
  go_enter Try.func34, Try.ntmps34
  go_wp2_with fail
  refine HC.out.mono ?_
  rintro e w1 ⟨rfl, hb⟩
  have HB := Lib.hid hb
  clear hb
  go_wp2_with fail
  go_ret
  exact ⟨rfl, HB.out.alloc HB.out.size _⟩

set_option maxRecDepth 100000 in
set_option maxHeartbeats 3200000 in
theorem undo_some (h : Jn W M F r J) {m : Nat} {T : List Nat} {L' : List (Nat × List Nat)} (hL : J.L = (m, T) :: L') :
    Calls Try.prog 34 #[.pointer (some ⟨r, 0, none⟩)] W fun e w' => e = .returned (.int .i64 0) ∧ Jst W M F r w' ⟨unw (J.U.length - m) J.U J.C, J.U.drop (J.U.length - m), L'⟩ := by
  obtain ⟨cb, cc, ps, lv, bs, h⟩ := h
  obtain ⟨g, lc, b, bs', rfl, rfl, _⟩ := h.top hL
  have HC := Lib.hid (close_some h hL rfl)
  have hlen := h.chain.length
  have HM := Lib.hid (fun k hk => h.fl k (h.mf k hk))
  have hmo := h.ok.mo
  rw [hL] at hmo
  have HMO := Lib.hid (List.pairwise_cons.1 hmo).1
  have HHd := Lib.hid (fun k p qs (e : ps.drop k = p :: qs) => (List.pairwise_cons.1 (e ▸ (h.chain.falls.drop (i := k)) : (p :: qs).Pairwise (fun a b => b < a))).1)
  have hmost := h.ok.most
  have HLen := Lib.hid hlen
  rw [hlen] at HC
  clear h hL hmo hlen
  obtain ⟨pp, hpp⟩ : ∃ pp, hd (ps.drop (J.U.length - m)) = pp := ⟨_, rfl⟩
  rw [hpp] at HC
  have HPP := Lib.hid hpp
  clear hpp
  go_enter Try.func34, Try.ntmps34
  go_wp2_with fail
  refine HC.out.mono ?_
  rintro e w1 ⟨rfl, hj, hbk, hst⟩
  have HJ1 := Lib.hid hj
  have HS1 := Lib.hid hst
  clear hj hbk hst
  go_wp2_with fail
  have htb : (w1.alloc (.cells #[.pointer pp, .map (some b)] 73)).heap[w1.heap.size]? = _ := heap_at w1 (.cells #[.pointer pp, .map (some b)] 73) rfl
  have hBl := (Below.refl w1.heap.size w1).alloc (Nat.le_refl _) (.cells #[.pointer pp, .map (some b)] 73)
  have H2 := Lib.hid (show UndoR W M F r J L' cb cc ps (.slice (some ⟨g, 0, none⟩) L'.length L'.length) bs' w1.heap.size pp b m (J.U.length - m) undef (w1.alloc (.cells #[.pointer pp, .map (some b)] 73)) from
    ⟨0, by omega, by simpa [unw] using HJ1.out.below hBl, htb, HS1.out.trans (Stp.of_below M F hBl)⟩)
  have htb0 := Lib.hid HS1.out.size
  clear htb hBl
  generalize w1.alloc (.cells #[.pointer pp, .map (some b)] 73) = w2 at *
  obtain ⟨tb, htb⟩ : ∃ tb, w1.heap.size = tb := ⟨_, rfl⟩
  rw [htb] at H2 htb0 ⊢
  clear htb
  go_loopg [13] (J.U.length - m) (fun n v wr => UndoR W M F r J L' cb cc ps (.slice (some ⟨g, 0, none⟩) L'.length L'.length) bs' tb pp b m n undef wr)
  case atStart => exact H2.out
  case round =>
    clear H2
    obtain ⟨k, hk, hj, htb, hst⟩ := hrel
    obtain ⟨t0, t1, _⟩ := two htb
    obtain ⟨a0, a1, a2, f0, f1, f2⟩ := three hj.hr
    by_cases hz : gk = 0
    · obtain rfl : k = J.U.length - m := by omega
      rw [HPP.out] at a1
      have HJ := Lib.hid hj
      have HS := Lib.hid hst
      clear hj hst htb hk hz HHd
      have hne := fun n => neq_same pp (wr.drewN n)
      go_wp2_with fail
      go_quiet (fail)
      go_wp2_with fail
      go_ret
      exact ⟨rfl, M, F, ⟨_, _, _, _, _, HJ.out.below (below_drewN (Below.refl _ wr) nq)⟩, HS.out.trans (Stp.of_below M F (below_drewN (Below.refl _ wr) nq))⟩
    · obtain ⟨i, o, R, hU⟩ : ∃ i o R, J.U.drop k = (i, o) :: R := by
        cases hd : J.U.drop k with
        | nil => have := congrArg List.length hd; rw [List.length_drop] at this; simp at this; omega
        | cons q R => exact ⟨q.1, q.2, R, rfl⟩
      have hch := hj.chain
      simp only at hch
      rw [hU] at hch
      obtain ⟨p, qs, ib, ob, hps, hp, hib, hob, hokp, hokib, hokob, hlt, hch'⟩ := hch.tail
      have hqs : qs = ps.drop (k + 1) := by rw [← List.drop_drop, hps]; rfl
      have hppq : pp = hd (qs.drop (J.U.length - m - (k + 1))) := by rw [hqs, List.drop_drop, ← HPP.out]; congr 2; omega
      have hR : R = J.U.drop (k + 1) := by rw [← List.drop_drop, hU]; rfl
      have hun := unw_succ k J.U J.C hU
      have hms : ∀ q ∈ L', q.1 ≤ R.length := fun q hq => by
        have h1 := HMO.out q hq
        have h2 := congrArg List.length hU
        rw [List.length_drop] at h2
        simp only [List.length_cons] at h2
        omega
      have hnode : pp = none ∨ ∃ q cb tb, pp = some ⟨q, 0, none⟩ ∧ wr.heap[q]? = some (.cells cb tb (0, 0)) ∧ q ≠ p := by
        rw [hppq]
        cases hd0 : qs.drop (J.U.length - m - (k + 1)) with
        | nil => exact .inl rfl
        | cons q rs =>
          have hm : q ∈ qs := List.mem_of_mem_drop (i := J.U.length - m - (k + 1)) (by rw [hd0]; exact List.mem_cons_self ..)
          obtain ⟨cs, hc⟩ := hch'.node q hm
          exact .inr ⟨q, cs, 93, rfl, hc, by have := hlt q hm; omega⟩
      have hne := fun n => neq_node (w := wr.drewN n) hp hnode
      rw [hps] at a1 hj
      simp only [hd] at a1
      have hi : i < J.C.length := by have := (hj.ok.us (i, o) (by rw [hU]; exact List.mem_cons_self ..)).1; rwa [unw_len] at this
      have ho : W64 o := (hj.ok.us (i, o) (by rw [hU]; exact List.mem_cons_self ..)).2
      obtain ⟨c0, g0⟩ := hj.cells.cell (k := i) (by rw [unw_len]; exact hi)
      simp only at c0
      generalize (unw k J.U J.C).getD i 0 = x at c0
      obtain ⟨d0, d1, _⟩ := two hp
      simp only [fnv] at d0
      have HJ := Lib.hid hj
      have HS := Lib.hid hst
      have HU := Lib.hid hU
      have HR := Lib.hid hR
      have HQ := Lib.hid hqs
      have HUn := Lib.hid hun
      have HMs := Lib.hid hms
      have HB := Lib.hid (fun (W' : World) (hc : W'.cell? ⟨cb, i, none⟩ = some (.int .u64 x)) (h1 : W'.heap[ib]? = wr.heap[ib]?) (h2 : W'.heap[ob]? = wr.heap[ob]?) (hf : W'.frozen? ⟨cb, i, none⟩ = false) => back_any (cc := cc) hi hmost (h1.trans hib) (h2.trans hob) hc hf)
      have HTb := Lib.hid htb
      have HP := Lib.hid hp
      have HK := Lib.hid (And.intro hk hz)
      simp only [unw_len] at a0
      clear hj hst htb hk hz HHd hU hR hqs hun hms hch hch' hps hppq hib hob hp hnode hokp hokib hokob hlt hi ho
      go_wp2_with fail
      go_quiet (fail)
      go_wp2_with fail
      replace a0 : (wr.drewN nq).cell? ⟨r, 0, none⟩ = _ := a0
      replace a1 : (wr.drewN nq).cell? ⟨r, 1, none⟩ = _ := a1
      replace f1 : (wr.drewN nq).frozen? ⟨r, 1, none⟩ = _ := f1
      replace d0 : (wr.drewN nq).cell? ⟨p, 0, none⟩ = _ := d0
      have HJ3 := Lib.hid (HJ.out.below (below_drewN (Below.refl _ wr) nq))
      have HS3 := Lib.hid (HS.out.trans (Stp.of_below M F (below_drewN (Below.refl _ wr) nq)))
      have HTb3 := Lib.hid (show (wr.drewN nq).heap[tb]? = _ from HTb.out)
      have HP3 := Lib.hid (show (wr.drewN nq).heap[p]? = _ from HP.out)
      replace HB := Lib.hid (HB.out (wr.drewN nq).drew c0 rfl rfl g0)
      clear HJ HS HTb HP c0 g0 t0 t1 hne f0 f2 a2 d1
      generalize wr.drewN nq = w3 at *
      go_still_tail 11, (by kernel_rfl)
      change wpList _ _ _ _ _ w3.drew
      go_wp2_with fail
      refine HB.out.mono ?_
      rintro e w4 ⟨rfl, rfl⟩
      have hJ4 := (HJ3.out.below ((Below.refl _ _).drew)).setC (i := i) (by rw [unw_len]; exact (HJ3.out.ok.us (i, o) (by rw [HU.out]; exact List.mem_cons_self ..)).1 |> fun h => by rwa [unw_len] at h) (HJ3.out.ok.us (i, o) (by rw [HU.out]; exact List.mem_cons_self ..)).2
      have hnp : p ≠ cb := by
        obtain ⟨cur, hc⟩ := HJ3.out.cells.typed
        exact ne_of_types HP3.out hc (by decide)
      have hP4 : (w3.drew.setCell ⟨cb, i, none⟩ (.int .u64 o)).heap[p]? = _ := (Below.heap_setCell _ _ _ _ hnp).trans HP3.out
      have hntb : tb ≠ cb := fun e => by have := HM.out _ HJ3.out.mc; have := htb0.out; omega
      have hT4 : (w3.drew.setCell ⟨cb, i, none⟩ (.int .u64 o)).heap[tb]? = _ := (Below.heap_setCell _ _ _ _ hntb).trans HTb3.out
      have hS4 := (HS3.out.trans (Stp.of_below M F ((Below.refl _ w3).drew))).trans (Stp.of_grown (W := w3.drew) F (grown_set (r := cb) (k := i) (.int .u64 o)) HJ3.out.mc)
      obtain ⟨b0, b1, b2, f0, f1', f2⟩ := three hJ4.hr
      simp only [hd] at b1
      obtain ⟨_, d1, _⟩ := two hP4
      have HJ4 := Lib.hid hJ4
      have HS4 := Lib.hid hS4
      have HT4 := Lib.hid hT4
      clear hJ4 hS4 hT4 hP4 hnp hntb a0 a1 f1 d0 b0 b2
      generalize w3.drew.setCell ⟨cb, i, none⟩ (.int .u64 o) = w5 at *
      go_wp2_with fail
      go_roundg (gk - 1)
      case measure => have := HK.out; omega
      case rel =>
        have hK := HK.out
        have hpop := HJ4.out.pop (show (⟨(unw k J.U J.C).set i o, J.U.drop k, L'⟩ : JS).U = (i, o) :: R from HU.out) HMs.out
        refine ⟨k + 1, by omega, ?_, ?_, HS4.out.trans (Stp.of_grown F (grown_set _) HJ4.out.mr)⟩
        · rw [HUn.out, ← HR.out, ← HQ.out]; exact hpop
        · exact (Below.heap_setCell _ _ _ _ (fun e => by have e' : tb = r := e; have := HM.out _ HJ4.out.mr; have := htb0.out; omega)).trans HT4.out

theorem undo_any (h : Jn W M F r J) :
    Calls Try.prog 34 #[.pointer (some ⟨r, 0, none⟩)] W fun e w' => e = .returned (.int .i64 J.undo.2) ∧ Jst W M F r w' J.undo.1 := by
  cases hL : J.L with
  | nil =>
    have e : J.undo = (J, 11) := by unfold JS.undo; rw [hL]
    rw [e]
    exact (undo_none h hL).mono fun e w' ⟨h1, h2⟩ => ⟨h1, Jst.same h h2⟩
  | cons p L' =>
    obtain ⟨m, T⟩ := p
    have e : J.undo = (⟨unw (J.U.length - m) J.U J.C, J.U.drop (J.U.length - m), L'⟩, 0) := by unfold JS.undo; rw [hL]
    rw [e]
    exact undo_some h hL
end
end Go.Proofs.Ytkpfnonacebmkaa
