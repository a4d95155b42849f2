/- The document's journal: Keep. -/
import Derived.Test.YtkpfnonacebmkaaKv
namespace Go.Proofs.Ytkpfnonacebmkaa
open Go.RowKit

section
variable {P : Program} {w : World} {e : TypeId} {size : Nat} {v : Value} {n : Nat} {xs : List Value}
theorem run_append_none (t ty : TypeId) (i : TypeInfo) (ht : P.underlying t = some (.slice e)) (hi : P.info? e = some i) (hown : LRow w e size v n xs) (ao : Option Addr) (c : Nat) :
    (Builtin.append_ #[t, t] ty #[v, .slice ao 0 c]).run P w = .ok v w := by
  rcases hown.2 with ⟨rfl, rfl⟩ | ⟨g, cap, cur, rfl, _, hnc, _⟩
  · cases ao <;> simp [Builtin.append_, run_underlying ht, sizeOf, typeInfo, hi, Builtin.lenOf, Builtin.firstCells, loadCells, loadCellsFrom]
  · cases ao <;> simp [Builtin.append_, run_underlying ht, sizeOf, typeInfo, hi, Builtin.lenOf, Builtin.firstCells, loadCells, loadCellsFrom, hnc, storeCells]
theorem step_append_none {ops : Array Oper} {o : Oper} {a : Act} {K : Act → World → Prop} {Q : Exit → Act → World → Prop} {E : Prop} (hgd : o.guard = none) (s x : Operand) (t : TypeId)
    (ho : o.op = .call { callee := .builtin .append, args := #[s, x], argTypes := #[t, t] })
    (e : TypeId) (i : TypeInfo) (size : Nat) (ht : P.underlying t = some (.slice e)) (hi : P.info? e = some i)
    (v : Value) (n : Nat) (xs : List Value) (hs : a.eval s = v) (hown : LRow w e size v n xs)
    (ao : Option Addr) (c : Nat) (hx : a.eval x = .slice ao 0 c) (h : K (a.put o.dst v) w) :
    if Region.wanted o (yielded ops a.tmps) = true then Oper.wp P o a w K Q else E := by
  have hw : Region.wanted o (yielded ops a.tmps) = true := by simp [Region.wanted, hgd]
  rw [if_pos hw]
  have hr := run_append_none (P := P) (w := w) t o.type i ht hi hown ao c
  unfold Oper.wp execOp
  simp only [ho, resolve, invoke, builtin, Sem.run_bind, Sem.run_pure, Result.andThen_ok, List.map_toArray, List.map_cons, List.map_nil, hs, hx, hr]
  exact h
end
section
variable {W : World} {F : Nat → Prop} {r : Nat} {K : KS}
/-- The second level takes what the topmost one touched. -/
theorem Kg.merged {cb cc g lc d b c b2 c2 : Nat} {sv sv2 sv' : Value} {ws' : List LB} {w S w2 S2 : List Int} {L' : List (List Int × List Int)} {W2 w4 : World}
    (h : Kg W F r K cb cc (.slice (some ⟨g, 0, none⟩) (d + 2) lc) ((b, c, sv) :: (b2, c2, sv2) :: ws')) (hL : K.L = (w, S) :: (w2, S2) :: L') (hd : L'.length = d)
    (hB : Below W.heap.size W W2) (hg : W2.grownBy w4 sv2.ownBlock) (hO : LRow w4 3 1 sv' (S2.length + S.length) (S2.map (Value.int .i64) ++ S.map (Value.int .i64)))
    (hA : sv'.ownBlock = sv2.ownBlock ∨ ∃ g', sv'.ownBlock = some g' ∧ W2.heap.size ≤ g' ∧ g' < w4.heap.size) :
    ∃ F', Kg (w4.setCell ⟨g, d * 2 + 1, none⟩ sv') F' r ⟨K.C, (w, S) :: (w2, S2 ++ S) :: L'⟩ cb cc (.slice (some ⟨g, 0, none⟩) (d + 2) lc) ((b, c, sv) :: (b2, c2, sv') :: ws') ∧ Stp W (w4.setCell ⟨g, d * 2 + 1, none⟩ sv') F F' F F' := by
  have h2 := h.below hB
  have h3 := h2.setAt (p := 1) (S' := S2 ++ S) (sv' := sv') (w4 := w4) (by rw [hL]; simp [hd]) (by rw [hL]; rfl) rfl (by simpa using hO) hg hA
  rw [hL] at h3
  refine ⟨_, h3, ?_⟩
  have k1 := Stp.of_below F F hB
  have k2 : Stp W2 w4 F F F F := ⟨hg.os, hg.tape, hg.output, hg.size, fun k hk hn => hg.block k hk (fun e => hn ((h.mw 1 b2 c2 sv2 rfl).2 k e.symm)), fun _ h => .inl h, fun _ h => .inl h⟩
  have k3 := (k1.trans k2).trans (Stp.of_grown (M := F) F (grown_set (W := w4) (r := g) (k := d * 2 + 1) sv') (h.ml g rfl))
  have new : ∀ k, (F k ∨ sv'.ownBlock = some k) → F k ∨ W.heap.size ≤ k := by
    rintro k (h1 | h1)
    · exact .inl h1
    · rcases hA with hA | ⟨g', hA, h2, _⟩
      · rw [hA] at h1; exact .inl ((h.mw 1 b2 c2 sv2 rfl).2 k h1)
      · rw [hA] at h1; cases h1; exact .inr (Nat.le_trans hB.size h2)
  exact ⟨k3.os, k3.tape, k3.output, k3.size, k3.block, new, new⟩
theorem Kg.merged2 {cb cc g lc d m b c b2 c2 : Nat} {sv sv2 sv' : Value} {ws' : List LB} {w S w2 S2 : List Int} {L' : List (List Int × List Int)} {W2 w4 : World}
    (h : Kg W F r K cb cc (.slice (some ⟨g, 0, none⟩) (m + 1) lc) ((b, c, sv) :: (b2, c2, sv2) :: ws')) (hL : K.L = (w, S) :: (w2, S2) :: L') (hd : L'.length = d) (hm : d + 1 = m)
    (hB : Below W.heap.size W W2) (hg : W2.grownBy w4 sv2.ownBlock) (hO : LRow w4 3 1 sv' (S2.length + S.length) (S2.map (Value.int .i64) ++ S.map (Value.int .i64)))
    (hA : sv'.ownBlock = sv2.ownBlock ∨ ∃ g', sv'.ownBlock = some g' ∧ W2.heap.size ≤ g' ∧ g' < w4.heap.size) :
    ∃ F', Kg (w4.setCell ⟨g, d * 2 + 1, none⟩ sv') F' r ⟨K.C, (w, S) :: (w2, S2 ++ S) :: L'⟩ cb cc (.slice (some ⟨g, 0, none⟩) (m + 1) lc) ((b, c, sv) :: (b2, c2, sv') :: ws') ∧ Stp W (w4.setCell ⟨g, d * 2 + 1, none⟩ sv') F F' F F' := by
  subst hm
  exact h.merged hL hd hB hg hO hA
/-- The two topmost levels. -/
theorem Kg.top2 {cb cc : Nat} {lv : Value} {ws : List LB} (h : Kg W F r K cb cc lv ws) {w S w2 S2 : List Int} {L' : List (List Int × List Int)} (hL : K.L = (w, S) :: (w2, S2) :: L') :
    ∃ g lc b c sv b2 c2 sv2 ws', lv = .slice (some ⟨g, 0, none⟩) (L'.length + 2) lc ∧ L'.length + 2 ≤ lc ∧ ws = (b, c, sv) :: (b2, c2, sv2) :: ws' ∧ LRow W 3 1 sv S.length (S.map (Value.int .i64)) ∧ LRow W 3 1 sv2 S2.length (S2.map (Value.int .i64)) ∧
      W.cell? ⟨g, (L'.length + 1) * 2 + 1, none⟩ = some sv ∧ W.cell? ⟨g, L'.length * 2 + 1, none⟩ = some sv2 := by
  obtain ⟨g, lc, b, c, sv, ws1, rfl, h1, rfl, hl, hO, hS, t0, t1⟩ := h.top hL
  cases ws1 with
  | nil => simp at hl
  | cons x ws' =>
    obtain ⟨b2, c2, sv2⟩ := x
    have hr := h.row
    obtain ⟨k1, k2⟩ := rowK_at (p := 1) h.len (by rw [hL]; rfl) rfl
    obtain ⟨k3, k4⟩ := h.at' 1 w2 S2 b2 c2 sv2 (by rw [hL]; rfl) rfl
    rw [hL] at hr k1 k2
    have e : (L'.length + 1 + 1 - 1 - 1) * 2 + 1 = L'.length * 2 + 1 := by omega
    simp only [List.length_cons, e] at k2 hr h1 t1
    exact ⟨g, lc, b, c, sv, b2, c2, sv2, ws', rfl, h1, rfl, hS, k4, t1, hr.at k2⟩

set_option maxRecDepth 100000 in
set_option maxHeartbeats 1600000 in
theorem kKeep_none (h : Kn W F r K) (hL : K.L = []) :
    Calls Try.prog 63 #[.pointer (some ⟨r, 0, none⟩)] W fun e w' => e = .returned (.int .i64 11) ∧ W = w' := by
  obtain ⟨cb, cc, lv, ws, h⟩ := h
  obtain ⟨lo, lc, rfl, _⟩ := lv_len h.row
  obtain ⟨a0, a1, _⟩ := two h.hr
  rw [hL] at a1
  clear h hL
  go_enter Try.func63, Try.ntmps63
  go_wp2_with fail
  go_ret
  exact ⟨rfl, rfl⟩
set_option maxRecDepth 100000 in
set_option maxHeartbeats 1600000 in
theorem kKeep_one (h : Kn W F r K) {y : List Int × List Int} (hL : K.L = [y]) :
    Calls Try.prog 63 #[.pointer (some ⟨r, 0, none⟩)] W fun e w' => e = .returned (.int .i64 0) ∧ Kst W F r w' ⟨K.C, []⟩ := by
  obtain ⟨cb, cc, lv, ws, h⟩ := h
  obtain ⟨w, S⟩ := y
  obtain ⟨g, lc, b, c, sv, ws', rfl, hlc, rfl, _⟩ := h.top hL
  simp only [List.length_nil, Nat.zero_add] at h hlc
  obtain ⟨a0, a1, f0, f1⟩ := two h.hr
  have HK := Lib.hid (h.cutTop (d := 0) hL rfl)
  have hcut := fun W => run_cut68 g 1 lc 0 W (by omega) hlc
  simp only [Int.natCast_zero] at hcut
  clear h hL
  go_enter Try.func63, Try.ntmps63
  go_wp2_with fail
  go_ret
  exact ⟨rfl, HK.out⟩

end
end Go.Proofs.Ytkpfnonacebmkaa
