/- journal: Touched. -/
import Derived.Test.YtkpfnonacebmkaaBa
import Derived.Test.YtkpfnonacebmkaaLy
namespace Go.Proofs.Ytkpfnonacebmkaa
open Go.RowKit Go.Maps Go.Sort Go.Shelf

/-- slices.Sort's two contracts at this program. -/
theorem sortsA (m : Nat) : AnyZI.SortsIn Try.prog sortedA_ren Fence.wide m :=
  ⟨fun blk off cap ss W hH hblk hsz => callsIn_wide.2 (AnyM.slices_Sort_int sortA blk off cap ss W hH hblk hsz),
   fun p cap W => callsIn_wide.2 (AnyM.slices_Sort_int_none sortA p cap W)⟩

/-- maps.Keys. -/
theorem keys_any (mb : Option Nat) (W : World) : Calls Try.prog 58 #[.map mb] W fun e w' => e = .returned (.func (.func 69) #[] #[.pointer (some ⟨W.heap.size, 0, none⟩)]) ∧ w' = W.alloc (.cells #[.map mb] 71) :=
  (callsIn_wide (n := 5)).1 (AnyZI.keys_in keysA Fence.wide 5 trivial rfl mb W)

set_option maxRecDepth 100000 in
/-- slices.Sorted of what maps.Keys handed back. -/
theorem sorted_any (b nn : Nat) (D0 : DataW Unit) (R : Value → Option (DataW Unit × List MemPlace)) (w : World) (hown : w.ownsMap Try.prog 3 R b nn D0) (hmax : Maps.size D0 ≤ maxLen) (hbytes : Maps.size D0 * 8 ≤ 140737488355328) :
    Calls Try.prog 57 #[.func (.func 69) #[] #[.pointer (some ⟨w.heap.size, 0, none⟩)]] (w.alloc (.cells #[.map (some b)] 71)) fun e w' => ∃ (v : Value) (ss : List Int), e = .returned v ∧ ss.Perm (intKeys D0) ∧
      w'.ownsRow w.heap.size 3 1 v ss.length ((ss.mergeSort (fun x y => decide (x ≤ y))).map encZ) ∧ Below w.heap.size w w' := by
  have hbl := hown.lt
  have hseq : SeqGives Fence.wide 2 Try.prog 69 #[.pointer (some ⟨w.heap.size, 0, none⟩)] encZ (fun ss => ss.Perm (intKeys D0)) (Maps.size D0) (w.alloc (.cells #[.map (some b)] 71)) :=
    AnyZI.keys_gives (ρ := keysA_ren) { keysA with } Fence.wide _ trivial rfl (by omega) w.heap.size b nn D0 _ (by simp) (by simp) (by
      obtain ⟨es, clock, hb, Ft, hs, hD⟩ := hown
      exact ⟨es, clock, (Below.heap_alloc _ _ b hbl).trans hb, Ft, hs, hD⟩)
  have cS := AnyZI.sorted_in sortedA Fence.wide 5 trivial trivial trivial trivial rfl (by omega) (sortsA _) (enters_of Try.func68 (by kernel_rfl) rfl) 69 #[.pointer (some ⟨w.heap.size, 0, none⟩)] trivial (enters_of Try.func69 (by kernel_rfl) rfl) _ _ hmax hbytes _ hseq
  change CallsIn _ _ Try.prog 57 _ _ _ at cS
  refine ((callsIn_wide (n := 5)).1 cS).mono ?_
  rintro e w' ⟨v, ss, rfl, hS, hrow, hnil, hb⟩
  exact ⟨v, ss, rfl, hS, ownsRow_base_a hrow (by simp), ((Below.refl _ w).alloc (Nat.le_refl _) _).trans (hb.mono (by simp))⟩

/-- The numbers below N that are in T, rising. -/
def riseN (N : Nat) (T : List Nat) : List Int := ((List.range N).filter fun t => decide (t ∈ T)).map fun t : Nat => (t : Int)
theorem riseN_sorted (N : Nat) (T : List Nat) : (riseN N T).mergeSort leI = riseN N T := by
  refine List.mergeSort_of_pairwise ?_
  refine List.pairwise_map.2 ((List.Pairwise.filter _ List.pairwise_lt_range).imp fun h => ?_)
  simp only [leI, decide_eq_true_eq]
  omega
theorem riseN_mem {N : Nat} {T : List Nat} {x : Int} : x ∈ riseN N T ↔ ∃ t, t < N ∧ t ∈ T ∧ (t : Int) = x := by
  simp only [riseN, List.mem_map, List.mem_filter, List.mem_range, decide_eq_true_eq]
  constructor
  · rintro ⟨t, ⟨h1, h2⟩, h3⟩; exact ⟨t, h1, h2, h3⟩
  · rintro ⟨t, h1, h2, h3⟩; exact ⟨t, ⟨h1, h2⟩, h3⟩
theorem riseN_perm {W : World} {b nn N : Nat} {T : List Nat} {D : DataW Unit} (h : W.ownsMap Try.prog 3 unitElem b nn D) (h2 : ∀ x : Int, Maps.has D (.int .i64 x) = true ↔ ∃ t ∈ T, (t : Int) = x) (hT : ∀ t ∈ T, t < N) : (riseN N T).Perm (intKeys D) := by
  obtain ⟨es, hD, hpw, _⟩ := h.entries (Maps.int_keyed Try.underlying3)
  obtain ⟨es', hD', hko⟩ := h.keysOf
  obtain rfl : es = es' := by rw [hD] at hD'; simpa using hD'
  subst hD
  refine perm_intKeys hpw (fun p hp => by obtain ⟨v, hv⟩ := hko p hp; obtain ⟨x, _, hx, _⟩ := Maps.keyOf_i64 Try.underlying3 hv; exact ⟨x, hx⟩) ?_ fun x => ?_
  · exact List.pairwise_map.2 ((List.Pairwise.filter _ List.nodup_range).imp fun hne e => hne (by omega))
  · rw [riseN_mem, h2]
    constructor
    · rintro ⟨t, _, h2, h3⟩; exact ⟨t, h2, h3⟩
    · rintro ⟨t, h2, h3⟩; exact ⟨t, hT t h2, h2, h3⟩

/-- What Touched tells. -/
def JS.touched (J : JS) : List Int := match J.L with | [] => [] | (_, T) :: _ => riseN J.C.length T
def OwnI (w : World) (base : Nat) (ao : Option Addr) (cap : Nat) (l : List Int) : Prop := w.ownsRow base 3 1 (.slice ao l.length cap) l.length (l.map encZ)
theorem OwnI.rd {w : World} {base : Nat} {ao : Option Addr} {cap : Nat} {l : List Int} (h : OwnI w base ao cap l) : Ri w ao l := fun k hk => by
  rcases h.2 with ⟨h1, h0⟩ | ⟨g, cap', cur, h1, _, hg, _, _, _, ht⟩
  · omega
  · simp only [Value.slice.injEq, true_and] at h1
    obtain ⟨rfl, rfl⟩ := h1
    refine ⟨g, 0, rfl, ?_⟩
    have := World.ownsRow.cellAt h k (by omega)
    rw [Nat.zero_add, this, List.getElem?_map, List.getElem?_eq_getElem hk, getD_at hk]
    rfl
section
variable {W : World} {M F : Nat → Prop} {r : Nat} {J : JS}
set_option maxRecDepth 100000 in
set_option maxHeartbeats 1600000 in
theorem touched_any (h : Jn W M F r J) : Calls Try.prog 32 #[.pointer (some ⟨r, 0, none⟩)] W fun e w' => ∃ ao cap, e = .returned (.slice ao J.touched.length cap) ∧ OwnI w' W.heap.size ao cap J.touched ∧ Below W.heap.size W w' := by
  have HD := Lib.hid (depth_any h)
  cases hL : J.L with
  | nil =>
    have HT : Hid (J.touched = []) := Lib.hid (by unfold JS.touched; rw [hL])
    rw [hL] at HD
    clear h hL
    go_enter Try.func32, Try.ntmps32
    go_wp2_with fail
    refine HD.out.mono ?_
    rintro e w' ⟨rfl, rfl⟩
    go_wp2_with fail
    go_ret
    rw [HT.out]
    exact ⟨none, 0, rfl, World.ownsRow_nil _ _ _ _, Below.refl _ _⟩
  | cons p L' =>
    obtain ⟨m, T⟩ := p
    have HT : Hid (J.touched = riseN J.C.length T) := Lib.hid (by unfold JS.touched; rw [hL])
    obtain ⟨cb, cc, ps, lv, bs, h⟩ := h
    obtain ⟨g, lc, b, bs', rfl, rfl, hT, _, ht0, ht1⟩ := h.top hL
    obtain ⟨a0, a1, a2, f0, f1, f2⟩ := three h.hr
    have hdp : L'.length ≤ 63 := by have := h.ok.dp; rw [hL] at this; simp at this; omega
    have hmost := h.ok.most
    have hts := h.ok.ts (m, T) (by rw [hL]; exact List.mem_cons_self ..)
    rw [hL] at HD
    obtain ⟨D, hD1, hD2⟩ := hT
    have hsz := hD1.size_le
    have HS := Lib.hid (fun (W' : World) (hb : Below W.heap.size W W') => sorted_any b J.C.length D unitElem W' (hD1.kept (row := none) ⟨hb.os, hb.tape, hb.output, hb.size, fun k hk _ => hb.block k hk⟩ (by simp)) (by simp only [maxLen]; omega) (by omega))
    have HP := Lib.hid (riseN_perm hD1 hD2 hts)
    generalize hd0 : L'.length = d at *
    simp only [List.length_cons, hd0] at HD
    have HD0 := Lib.hid hd0
    have hsub : IntKind.i64.wrap (d : Int) = d := IntWalk.i64_in _ (by omega)
    have hd1 : (0 : Int) ≤ d := by omega
    have hd2 : d < d + 1 := by omega
    have hd3 : (d : Int) < (d : Int) + 1 := by omega
    have hq : ((d : Int) + 1 == 0) = false := by rw [beq_eq_false_iff_ne]; omega
    clear h hL hd0 hD1 hD2 hts hsz ht0
    go_enter Try.func32, Try.ntmps32
    go_wp2_with fail
    refine HD.out.mono ?_
    rintro e w' ⟨rfl, rfl⟩
    go_wp2_with fail
    go_still_tail 13, (by kernel_rfl)
    change wpList _ _ _ _ _ W.drew
    go_wp2_with fail
    refine (keys_any _ _).mono ?_
    rintro e w1 ⟨rfl, rfl⟩
    go_wp2_with fail
    refine (HS.out W.drew ((Below.refl _ _).drew)).mono ?_
    rintro e w2 ⟨v, ss, rfl, hp, hown, hb⟩
    have HO := Lib.hid (And.intro hp (And.intro hown hb))
    clear hp hown hb
    go_wp2_with fail
    go_ret
    obtain ⟨hp, hown, hb⟩ := HO.out
    have e1 : ss.mergeSort (fun x y => decide (x ≤ y)) = riseN J.C.length T := by
      rw [mergeSort_of_perm_i (hp.trans HP.out.symm)]; exact riseN_sorted _ _
    have e2 : ss.length = (riseN J.C.length T).length := (hp.trans HP.out.symm).length_eq
    rw [e1, e2] at hown
    rw [HT.out]
    rcases hown.2 with ⟨rfl, h0⟩ | ⟨g', cap', cur, rfl, _⟩
    · exact ⟨none, 0, by rw [h0]; rfl, by unfold OwnI; rw [h0] at hown ⊢; exact hown, ((Below.refl _ _).drew).trans hb⟩
    · exact ⟨_, _, rfl, hown, ((Below.refl _ _).drew).trans hb⟩
end
end Go.Proofs.Ytkpfnonacebmkaa
