/- journal: close. -/
import Derived.Test.YtkpfnonacebmkaaBg
namespace Go.Proofs.Ytkpfnonacebmkaa
open Go.RowKit

theorem run_cut (g n c d : Nat) (W : World) (hd : d ≤ n) (hn : n ≤ c) : (Instr.slice 63 (.slice (some ⟨g, 0, none⟩) n c) none (some (.int .i64 d)) (some (.int .i64 d))).run Try.prog W = .ok (.slice (some ⟨g, 0, none⟩) d d) W := by
  obtain ⟨i0, hi, hz0, hz1, hz2⟩ := info_parts Try.info73
  have hel : Try.prog.elem 63 = 73 := by kernel_rfl
  have h1 : d ≤ c := by omega
  simp [Instr.slice, run_underlying Try.underlying63, Instr.sliceBounds, run_sliceBound, sliced, hel, sizeOf, typeInfo, hi, hz1, Result.andThen, h1]
  try (intro _; simp [add_lit])

section
variable {W : World} {M F : Nat → Prop} {r : Nat} {J : JS} {cb cc : Nat} {ps : List Nat}
theorem LRow.cap {w : World} {e : TypeId} {size n : Nat} {xs : List Value} {a : Option Addr} {c : Nat} (h : LRow w e size (.slice a n c) n xs) : n ≤ c := by
  rcases h.2 with ⟨h1, h2⟩ | ⟨g, cap, cur, h1, _, h3, _⟩
  · omega
  · simp only [Value.slice.injEq, true_and] at h1; omega
theorem LRow.cut {w : World} {e : TypeId} {size d c g : Nat} {xs ys : List Value} (h : LRow w e size (.slice (some ⟨g, 0, none⟩) (d + 1) c) (d + 1) (xs ++ ys)) (hx : xs.length = d * size) : LRow w e size (.slice (some ⟨g, 0, none⟩) d d) d xs := by
  rcases h.2 with ⟨h1, _⟩ | ⟨g', cap, cur, h1, h2, h3, h4, h5, h6⟩
  · simp at h1
  · simp only [Value.slice.injEq, Option.some.injEq, Addr.mk.injEq, true_and, and_true] at h1
    obtain ⟨rfl, rfl⟩ := h1
    refine ⟨hx, .inr ⟨g, d, cur, rfl, h2, Nat.le_refl _, by omega, Nat.le_trans (Nat.mul_le_mul_right _ (by omega)) h5, ?_⟩⟩
    have := congrArg (List.take (d * size)) h6
    rw [List.take_take, ← hx, List.take_left, hx, Nat.min_eq_left (Nat.mul_le_mul_right _ (by omega))] at this
    exact this
/-- A level is closed. -/
theorem Jg.closed {b g d lc : Nat} {bs' : List Nat} (h : Jg W M F r J cb cc ps (.slice (some ⟨g, 0, none⟩) (d + 1) lc) (b :: bs')) {m : Nat} {T : List Nat} {L' : List (Nat × List Nat)} (hL : J.L = (m, T) :: L') (hd0 : L'.length = d) :
    Jg (W.setCell ⟨r, 2, none⟩ (.slice (some ⟨g, 0, none⟩) d d)) M F r { J with L := L' } cb cc ps (.slice (some ⟨g, 0, none⟩) d d) bs' := by
  have hg : W.grownBy (W.setCell ⟨r, 2, none⟩ (.slice (some ⟨g, 0, none⟩) d d)) (some r) := grown_set _
  have hk : ∀ k, k < W.heap.size → k ≠ r → (W.setCell ⟨r, 2, none⟩ (.slice (some ⟨g, 0, none⟩) d d)).heap[k]? = W.heap[k]? := fun k hk hne => hg.block k hk (fun e => hne (by cases e; rfl))
  have hsz : (W.setCell ⟨r, 2, none⟩ (.slice (some ⟨g, 0, none⟩) d d)).heap.size = W.heap.size := by simp [World.setCell]
  have hs := h.sets
  have hr := h.row
  rw [hL] at hs hr
  simp only [List.length_cons, hd0] at hr
  have hok := h.ok
  refine ⟨heap3_set2 h.hr _, h.cells.kept (hk cb (h.fl _ (h.mf _ h.mc)) h.r_cb.symm), ?_, ?_, ?_, (List.nodup_cons.1 h.nd).2, h.mr, h.mc, h.ml, fun c hc => h.mb c (List.mem_cons_of_mem _ hc), h.mf, fun k hk => by rw [hsz]; exact h.fl k hk, ?_⟩
  · exact h.chain.kept (fun k hk' => hk k (h.fl k hk'.1) (fun e => hk'.2 (e ▸ h.mr))) (fun _ h => h)
  · have h1 := LRow.cut hr (by rw [rowOf_length hs.2.length, hd0])
    show LRow _ 73 2 _ L'.length _
    rw [hd0]
    exact h1.kept fun k e => by
      simp [Value.ownBlock] at e
      subst e
      obtain ⟨cur, hc⟩ := h.row.lt (g := g) rfl
      exact hk g (lt_of_block hc) (h.row_ne rfl).1
  · exact hs.2.kept fun c hc => hk c (h.fl _ (h.mf _ (h.mb c (List.mem_cons_of_mem _ hc)))) (h.map_ne (List.mem_cons_of_mem _ hc)).1
  · refine ⟨hok.pos, hok.most, hok.ws, hok.us, fun p hp => hok.ts p (by rw [hL]; exact List.mem_cons_of_mem _ hp), fun p hp => hok.ms p (by rw [hL]; exact List.mem_cons_of_mem _ hp), ?_, by have := hok.mo; rw [hL] at this; exact (List.pairwise_cons.1 this).2⟩
    have := hok.dp
    rw [hL] at this
    simp only [List.length_cons] at this
    simp only
    omega

set_option maxRecDepth 100000 in
set_option maxHeartbeats 1600000 in
theorem close_none (h : Jn W M F r J) (hL : J.L = []) :
    Calls Try.prog 59 #[.pointer (some ⟨r, 0, none⟩)] W fun e w' => e = .returned (.tuple #[.agg #[.pointer none, .map none], .int .i64 11]) ∧ Below W.heap.size W w' := by
  obtain ⟨cb, cc, ps, lv, bs, h⟩ := h
  obtain ⟨lo, lc, rfl, hob⟩ := lv_len h.row
  have HB := Lib.hid ((Below.refl W.heap.size W).alloc (Nat.le_refl _) (.cells #[.pointer none, .map none] 73))
  have h1 := h.below HB.out
  have HN := Lib.hid h1.none_any
  obtain ⟨a0, a1, a2, f0, f1, f2⟩ := three h1.hr
  rw [hL] at a2
  clear h h1 hob
  go_enter Try.func59, Try.ntmps59
  go_wp2_with fail
  refine HN.out.mono ?_
  rintro e w' ⟨rfl, rfl⟩
  go_wp2_with fail
  refine bodyPost_ret (v := .tuple #[.agg #[.pointer none, .map none], .int .i64 11]) (by simp [results, Try.results59, go_sem]) rfl ?_
  exact ⟨rfl, HB.out⟩

set_option maxRecDepth 100000 in
set_option maxHeartbeats 1600000 in
theorem close_some {b g d lc : Nat} {bs' : List Nat} (h : Jg W M F r J cb cc ps (.slice (some ⟨g, 0, none⟩) (d + 1) lc) (b :: bs')) {m : Nat} {T : List Nat} {L' : List (Nat × List Nat)} (hL : J.L = (m, T) :: L') (hd0 : L'.length = d) :
    Calls Try.prog 59 #[.pointer (some ⟨r, 0, none⟩)] W fun e w' => e = .returned (.tuple #[.agg #[.pointer (hd (ps.drop (ps.length - m))), .map (some b)], .int .i64 0]) ∧
      Jg w' M F r { J with L := L' } cb cc ps (.slice (some ⟨g, 0, none⟩) d d) bs' ∧ w'.heap[b]? = W.heap[b]? ∧ Stp W w' M M F F := by
  have HB := Lib.hid ((Below.refl W.heap.size W).alloc (Nat.le_refl _) (.cells #[.pointer none, .map none] 73))
  have h1 := h.below HB.out
  have HN := Lib.hid h1.none_any
  obtain ⟨a0, a1, a2, f0, f1, f2⟩ := three h1.hr
  obtain ⟨g', lc', b', bs'', e1, e2, hT, hl', ht0, ht1⟩ := h1.top hL
  simp only [Value.slice.injEq, Option.some.injEq, Addr.mk.injEq, and_true, true_and, List.cons.injEq] at e1 e2
  obtain ⟨rfl, hjk, rfl⟩ := e1
  clear hjk
  obtain ⟨rfl, rfl⟩ := e2
  rw [hd0] at ht0 ht1
  have hdp : d ≤ 63 := by have := h.ok.dp; rw [hL] at this; simp at this; omega
  have hlc : d + 1 ≤ lc := by have := h.row; rw [hL] at this; simp only [List.length_cons, hd0] at this; exact this.cap
  have hcut := fun W => run_cut g (d + 1) lc d W (by omega) hlc
  have hsub : IntKind.i64.wrap (d : Int) = d := IntWalk.i64_in _ (by omega)
  have hq : ((d : Int) + 1 == 0) = false := by rw [beq_eq_false_iff_ne]; omega
  have hdd : d < d + 1 := by omega
  have HH := Lib.hid h
  have HL := Lib.hid (And.intro hL hd0)
  have hwl := lt_of_block h.hr
  have hlr := lt_of_block h1.hr
  have hbl := Lib.hid (h.fl _ (h.mf _ (h.mb b (List.mem_cons_self ..))))
  have hrb := Lib.hid (h.map_ne (List.mem_cons_self ..)).1
  have hrs := HB.out.size
  clear h h1 hL hd0 hT hl' hlc
  generalize ps.length - m = q at *
  generalize hd (ps.drop q) = pp at *
  go_enter Try.func59, Try.ntmps59
  go_wp2_with fail
  refine HN.out.mono ?_
  rintro e w' ⟨rfl, rfl⟩
  go_wp2_with fail
  refine bodyPost_ret (v := .tuple #[.agg #[.pointer pp, .map (some b)], .int .i64 0]) (by simp [results, Try.results59, go_sem]) rfl ?_
  have hB : Below (W.setCell ⟨r, 2, none⟩ (.slice (some ⟨g, 0, none⟩) d d)).heap.size (W.setCell ⟨r, 2, none⟩ (.slice (some ⟨g, 0, none⟩) d d)) (((W.setCell ⟨r, 2, none⟩ (.slice (some ⟨g, 0, none⟩) d d)).alloc (.cells #[.pointer pp, .map (some b)] 73)).alloc (.cells #[.pointer pp, .map (some b)] 73)) :=
    ((Below.refl _ _).alloc (Nat.le_refl _) _).alloc (by simp) _
  have hsz : (W.setCell ⟨r, 2, none⟩ (.slice (some ⟨g, 0, none⟩) d d)).heap.size = W.heap.size := by simp [World.setCell]
  refine ⟨rfl, (HH.out.closed HL.out.1 HL.out.2).below hB, ?_, (Stp.of_grown F (grown_set _) HH.out.mr).trans (Stp.of_below M F hB)⟩
  exact (hB.block b (by rw [hsz]; exact hbl.out)).trans (Below.heap_setCell _ _ _ _ hrb.out)
end
end Go.Proofs.Ytkpfnonacebmkaa
