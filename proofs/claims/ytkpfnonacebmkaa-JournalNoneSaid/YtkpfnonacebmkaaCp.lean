/- maps.Copy between two sets of ints. -/
import Derived.Test.YtkpfnonacebmkaaTc
import Derived.Lib.SlMapMerge
import Derived.Maps.RangeWalk
import Derived.Laws.IdiomRangeMap
namespace Go.Proofs.Ytkpfnonacebmkaa
open Go.RowKit Go.Maps

set_option maxHeartbeats 4000000 in
set_option maxRecDepth 100000 in
theorem mcopy_any (bd bs nd ns : Nat) (Dd Ds : DataW Unit) (w : World) (hd : w.ownsMap Try.prog 3 unitElem bd nd Dd) (hs : w.ownsMap Try.prog 3 unitElem bs ns Ds) (hne : bd ≠ bs) (hroom : nd + Maps.size Ds ≤ maxLen) :
    Calls Try.prog 65 #[.map (some bd), .map (some bs)] w fun e w' => e = .returned (.tuple #[]) ∧ (∃ Dout : DataW Unit, w'.ownsMap Try.prog 3 unitElem bd (nd + Maps.size Ds) Dout ∧ ∀ k, Maps.has Dout k = (Maps.has Dd k || Maps.has Ds k)) ∧ w.grownBy w' (some bd) := by
  have K : Keyed Try.prog 3 := Maps.int_keyed Try.underlying3
  have hbd := hd.lt
  have hbs := hs.lt
  go_enter Try.func65, Try.ntmps65
  go_wp2_with (first
    | (at_range; refine wpList_range_own _ rfl _ 71 rfl 3 88 K Try.underlying71 unitElem bs ns _ rfl hs ?_; intro w0 hrg0 hg0 hs0)
    | go_in)
  go_frame
  go_loopw [8] (fun _ wr => ∃ (left : Lit → Bool) (cnt : Nat) (Dout : DataW Unit), wr.ranges Try.prog 3 unitElem bs w.heap.size ns Ds left cnt ∧ cnt ≤ Maps.size Ds ∧
      wr.ownsMap Try.prog 3 unitElem bd (nd + (Maps.size Ds - cnt)) Dout ∧ Merged Dout Dd Ds left ∧ w.grownBy wr (some bd))
    (fun _ wr => wr.rangeLeft bs w.heap.size)
  case atStart =>
    exact ⟨_, _, Dd, hrg0, Nat.le_refl _, (hd.kept hg0 (by simp)).mono (by omega), merged_start Dd Ds, hg0.but _⟩
  case round =>
    obtain ⟨left, cnt, Dout, hrg, hcs, hout, hM, hgw⟩ := hrel
    go_wp2_with (first
      | (at_next; refine wpList_next_ranges _ rfl _ rfl 3 K unitElem encZ (fun _ : Unit => Value.agg #[]) (fun key kl hk => by obtain ⟨x, hx, _⟩ := Maps.keyOf_i64 Try.underlying3 hk; exact ⟨x, hx⟩) (fun v y hv => ⟨(), (unitElem_inv hv).1⟩) bs w.heap.size ns _ _ _ rfl hrg ?_ ?_)
      | go_in)
    · -- nothing is left
      intro hc0 hl0
      go_wp2
      go_end0
      subst hc0
      exact ⟨rfl, ⟨Dout, by simpa using hout, fun k => by rw [hM.1, hl0]; simp⟩, hgw⟩
    · -- an entry has come
      intro x kl yd yp w1 cnt1 hkey hlx hv hat hrg1 hlt hg1 hs1 hen
      have hout1 := hout.kept hg1 (fun e => by have := Option.some.inj e; omega)
      have hou2 := hout1.alloc (.cells #[] 88)
      go_wp2_with (first
        | (at_mapUpdate; refine wpList_mapUpdate_own _ rfl _ _ _ 71 rfl 3 88 K Try.underlying71 unitElem bd _ _ rfl hou2 (by omega) _ _ _ rfl rfl hkey yd yp hv ?_; intro w2 hout2 hg2; go_frame)
        | go_in)
      have hrgA := hrg1.kept (World.grownBy_alloc w1 (.cells #[] 88) none) (by simp) (by simp)
      have hrg2 := hrgA.kept hg2 (fun e => hne (Option.some.inj e).symm) (fun e => by have := Option.some.inj e; omega)
      go_roundw
      case rel =>
        exact ⟨_, cnt1, _, hrg2, by omega, hout2.mono (by omega), merged_step hM hout.isMap (K.key hkey) hat,
          ((hgw.andThen hg1 (fun j hj => .inl (by cases hj; exact Nat.le_refl _))).andThen (World.grownBy_alloc w1 (.cells #[] 88) none) (fun j hj => by cases hj)).andThen hg2 (fun j hj => .inr hj)⟩
      case measure => rw [hrg2.left_eq, hrg.left_eq]; exact hlt
end Go.Proofs.Ytkpfnonacebmkaa
