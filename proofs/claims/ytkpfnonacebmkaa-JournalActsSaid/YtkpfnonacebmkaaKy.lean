/- The document's journal: Keep. -/
import Derived.Test.YtkpfnonacebmkaaKxa
import Derived.Test.YtkpfnonacebmkaaKxb
namespace Go.Proofs.Ytkpfnonacebmkaa
open Go.RowKit

section
variable {W : World} {F : Nat → Prop} {r : Nat} {K : KS}
theorem kKeep_any (h : Kn W F r K) (ht : K.tot ≤ 1000000) :
    Calls Try.prog 63 #[.pointer (some ⟨r, 0, none⟩)] W fun e w' => e = .returned (.int .i64 K.keep.2) ∧ Kst W F r w' K.keep.1 := by
  unfold KS.tot at ht
  unfold KS.keep
  split
  · rename_i hL
    exact (kKeep_none h hL).mono fun e w' ⟨h1, h2⟩ => ⟨h1, Kst.same h (h2 ▸ Below.refl _ _)⟩
  · rename_i hL
    exact kKeep_one h hL
  · rename_i hL
    rw [hL] at ht
    simp only [List.map_cons, List.sum_cons] at ht
    rename_i w S w2 S2 L'
    by_cases h0 : S = []
    · subst h0
      exact kKeep_zero h hL (by omega) rfl
    · exact kKeep_pos h hL (by omega) h0
end
end Go.Proofs.Ytkpfnonacebmkaa
