/- codec.Reader: U. -/
import Derived.Test.YtjiffflhedekfaaRdr
namespace Go.Proofs.Ytjiffflhedekfaa
open Go.RowKit

/-- What 'U' tells, and the reader behind it. -/
def uR (S : RS) : Int × RS :=
  if S.ft ≠ none then (0, S) else
  if (numR (S.L.drop S.at_)).2.2 ≠ 0 then (0, { S with ft := some ((numR (S.L.drop S.at_)).2.2, (S.at_ : Int)) }) else
  ((numR (S.L.drop S.at_)).1, { S with at_ := S.at_ + (numR (S.L.drop S.at_)).2.1.toNat })

theorem OwnY.cap {w : World} {base : Nat} {ao : Option Addr} {cap : Nat} {l : List Int} (h : OwnY w base ao cap l) : l.length ≤ cap := by
  rcases h.2 with ⟨h1, h0⟩ | ⟨g, cap', cur, h1, _, _, hn, _⟩
  · omega
  · simp only [Value.slice.injEq, true_and] at h1
    omega
theorem slice_from {w : World} {ao : Option Addr} {l : List Int} {c k : Nat} (h : Rb w ao l) (hk : k ≤ l.length) (hc : l.length ≤ c) :
    ∃ ao', (∀ W, (Instr.slice 43 (.slice ao l.length c) (some (.int .i64 k)) none none).run Try.prog W = .ok (.slice ao' (l.drop k).length (c - k)) W) ∧ Rb w ao' (l.drop k) := by
  obtain ⟨i0, hi, hz0, hz1, hz2⟩ := info_parts Try.info5
  have hel : Try.prog.elem 43 = 5 := by kernel_rfl
  refine ⟨if c = k then ao else ao.map (·.add (k * 1)), fun W => ?_, fun j hj => ?_⟩
  · rw [run_slice_l (P := Try.prog) W 43 ao l.length c (by rw [hel]; exact Try.underlying43) .i64 (k : Int) (by omega) (by omega), hel]
    simp [sizeOf, typeInfo, hi, hz1, sliced, Result.andThen]
  · rw [List.length_drop] at hj
    obtain ⟨b, o, rfl, hcell⟩ := h (k + j) (by omega)
    rw [if_neg (by omega)]
    refine ⟨b, o + k, by rw [Nat.mul_one]; simp [add_lit], ?_⟩
    rw [show o + k + j = o + (k + j) by omega, hcell]
    simp [List.getD_eq_getElem?_getD]
theorem Rb.drewN {w : World} {ao : Option Addr} {l : List Int} (h : Rb w ao l) (n : Nat) : Rb (w.drewN n) ao l := h

set_option maxRecDepth 100000 in
set_option maxHeartbeats 1000000 in
/-- codec.read[uint64] at number. -/
theorem read64_any {W : World} {base r : Nat} {S : RS} {ao : Option Addr} {c : Nat} {fp : Option Addr} (h : Rdr W base r S ao c fp) :
    Calls Try.prog 82 #[.pointer (some ⟨r, 0, none⟩), .func (.func 81) #[] #[]] W fun e w' => e = .returned (.int .u64 (uR S).1) ∧ (∃ fp', Rdr w' base r (uR S).2 ao c fp') ∧ W.grownBy w' (some r) := by
  have HN := Lib.hid (rnone_any h)
  have HH := Lib.hid h
  obtain ⟨a0, a1, a2, a3, f0, f1, f2, f3⟩ := four h.hr
  rcases h.fa with ⟨h1, h2⟩ | ⟨e, a, f, h1, h2, _⟩
  · subst h2
    have h1' := Lib.hid h1
    have hle := h.le
    have hln := h.len
    obtain ⟨ao', hsl, hrb⟩ := slice_from h.own.rb h.le h.own.cap
    have hlen : (S.L.drop S.at_).length ≤ S.L.length := by rw [List.length_drop]; omega
    have hbs : Bs (S.L.drop S.at_) := h.bs.drop _
    have HC := Lib.hid (fun (n : Nat) => (number_any ao' (S.L.drop S.at_) (c - S.at_) (W.drewN n) (hrb.drewN n) hbs (by omega)).mono (fun _ _ hp => And.intro hp.1 hp.2.symm))
    have hok := fun h0 => numR_ok hbs h0
    rw [List.length_drop] at hok
    have hu : uR S = if (numR (S.L.drop S.at_)).2.2 ≠ 0 then (0, { S with ft := some ((numR (S.L.drop S.at_)).2.2, (S.at_ : Int)) }) else ((numR (S.L.drop S.at_)).1, { S with at_ := S.at_ + (numR (S.L.drop S.at_)).2.1.toNat }) := by
      unfold uR; rw [if_neg (by simp [h1])]
    generalize numR (S.L.drop S.at_) = R at *
    obtain ⟨x, k, er⟩ := R
    dsimp only at *
    have HU := Lib.hid hu
    have HSL := Lib.hid hsl
    have HF := Lib.hid (fun (n : Nat) => rfail_any (HH.out.step (below_drewN (Below.refl _ W) n)) h1)
    generalize (S.L.drop S.at_).length = dl at *
    clear hu h1 hrb hbs h
    by_cases her : er = 0
    · subst her
      obtain ⟨k0, k1, x0, x1⟩ := hok rfl
      have hk2 : (S.at_ : Int) + k ≤ S.L.length := by omega
      clear hok
      go_enter Try.func82, Try.ntmps82
      go_wp2_with fail
      refine HN.out.mono ?_
      rintro en w' ⟨rfl, rfl⟩
      go_wp2_with fail
      go_quiet ((go_at_call 81; exact Calls.quiet_of_same (HC.out _)))
      go_wp2_with fail
      go_ret
      have hd := HH.out.step (below_drewN (Below.refl _ W) nq)
      rw [HU.out, if_neg (by simp)]
      refine ⟨rfl, ⟨none, ?_, hd.own.setCell (a := ⟨r, 1, none⟩) hd.ne _, hd.ne, hd.lo, .inl ⟨h1'.out, rfl⟩, hd.bs, by simp only; omega, hd.len⟩, grown_trans (grown_below _ (below_drewN (Below.refl _ W) nq)) (grown_set _)⟩
      have := heap4_set1 hd.hr (.int .i64 ((S.at_ : Int) + k))
      rw [show (((S.at_ + k.toNat : Nat) : Int)) = (S.at_ : Int) + k by omega]
      exact this
    · have hq : (er == 0) = false := by rw [beq_eq_false_iff_ne]; exact her
      have hq' : (er != 0) = true := by simpa using her
      have HE := Lib.hid her
      clear hok her
      go_enter Try.func82, Try.ntmps82
      go_wp2_with fail
      refine HN.out.mono ?_
      rintro en w' ⟨rfl, rfl⟩
      go_wp2_with fail
      go_quiet ((go_at_call 81; exact Calls.quiet_of_same (HC.out _)))
      go_wp2_with fail
      refine (HF.out nq er S.at_ HE.out).mono ?_
      rintro en w2 ⟨rfl, hR, hg⟩
      have HR := Lib.hid (And.intro hR hg)
      clear hR hg
      go_wp2_with fail
      go_ret
      rw [HU.out, if_pos HE.out]
      exact ⟨rfl, HR.out.1, grown_trans (grown_below _ (below_drewN (Below.refl _ W) nq)) HR.out.2⟩
  · subst h2
    have HU : Hid (uR S = (0, S)) := Lib.hid (by unfold uR; rw [if_pos (by rw [h1]; simp)])
    clear h h1
    go_enter Try.func82, Try.ntmps82
    go_wp2_with fail
    refine HN.out.mono ?_
    rintro en w' ⟨rfl, rfl⟩
    go_wp2_with fail
    go_ret
    rw [HU.out]
    exact ⟨rfl, ⟨_, HH.out⟩, grown_below _ (Below.refl _ _)⟩

set_option maxHeartbeats 400000 in
/-- (*codec.Reader).U. -/
theorem u_any {W : World} {base r : Nat} {S : RS} {ao : Option Addr} {c : Nat} {fp : Option Addr} (h : Rdr W base r S ao c fp) :
    Calls Try.prog 61 #[.pointer (some ⟨r, 0, none⟩)] W fun e w' => e = .returned (.int .u64 (uR S).1) ∧ (∃ fp', Rdr w' base r (uR S).2 ao c fp') ∧ W.grownBy w' (some r) := by
  have HR := Lib.hid (read64_any h)
  clear h
  go_enter Try.func61, Try.ntmps61
  go_wp2_with fail
  refine HR.out.mono ?_
  rintro e w' ⟨rfl, hR⟩
  go_wp2_with fail
  go_ret
  exact ⟨rfl, hR⟩
end Go.Proofs.Ytjiffflhedekfaa
