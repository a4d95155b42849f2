/- codec.Reader: N, from 1 to 64; End; NewReader. -/
import Derived.Test.YtjiffflhedekfaaRdu
namespace Go.Proofs.Ytjiffflhedekfaa
open Go.RowKit

/-- What is wrong with a number that is to lie from 1 to 64. -/
def numE (R : Int × Int × Int) : Int := if R.2.2 ≠ 0 then R.2.2 else if 64 < R.1 ∨ R.1 < 1 then 3 else 0
def nR (S : RS) : Int × RS :=
  if S.ft ≠ none then (0, S) else
  if numE (numR (S.L.drop S.at_)) ≠ 0 then (0, { S with ft := some (numE (numR (S.L.drop S.at_)), (S.at_ : Int)) }) else
  ((numR (S.L.drop S.at_)).1, { S with at_ := S.at_ + (numR (S.L.drop S.at_)).2.1.toNat })

theorem numF_x (l : List Int) : ∀ (i : Nat) (n : Int), (numF i n l).2.2 ≠ 0 → (numF i n l).1 = 0 := by
  induction l with
  | nil => intro i n _; rfl
  | cons x l ih =>
    intro i n h
    rw [numF] at h ⊢
    by_cases c1 : i = 9 ∧ 1 < x ∨ 0 < i ∧ x = 0
    · rw [if_pos c1]
    rw [if_neg c1] at h ⊢
    by_cases c2 : x < 128
    · rw [if_pos c2] at h; simp at h
    · rw [if_neg c2] at h ⊢; exact ih _ _ h
theorem numR_x {l : List Int} (h : (numR l).2.2 ≠ 0) : (numR l).1 = 0 := numF_x l 0 0 h

set_option maxRecDepth 100000 in
set_option maxHeartbeats 1000000 in
theorem n1_any (mb lb : Nat) (ao : Option Addr) (l : List Int) (c : Nat) (W : World) (hl : Rb W ao l) (bl : Bs l) (nl : l.length ≤ 140737488355328) (hm : W.heap[mb]? = some (.cells #[.int .i64 64] 3 (0, 0))) (hlb : W.heap[lb]? = some (.cells #[.int .i64 1] 3 (0, 0))) :
    Calls Try.prog 80 #[.slice ao l.length c, .pointer (some ⟨mb, 0, none⟩), .pointer (some ⟨lb, 0, none⟩)] W fun e w' => e = .returned (.tuple #[.int .i64 (wrap64 (numR l).1), .int .i64 (numR l).2.1, .int .i64 (numE (numR l))]) ∧ W = w' := by
  have HC := Lib.hid (number_any ao l c W hl bl nl)
  have hok := fun h0 => numR_ok bl h0
  have hzx := @numR_x l
  have c1 := cell_of_one hm
  have c2 := cell_of_one hlb
  generalize numR l = R at *
  obtain ⟨x, k, er⟩ := R
  dsimp only at *
  have HE : Hid (numE (x, k, er) = if er ≠ 0 then er else if 64 < x ∨ x < 1 then 3 else 0) := Lib.hid rfl
  clear hl bl hm hlb
  by_cases her : er = 0
  · subst her
    obtain ⟨k0, k1, x0, x1⟩ := hok rfl
    clear hok hzx
    by_cases h64 : 64 < x
    · have HX : Hid (numE (x, k, 0) = 3) := Lib.hid (by rw [HE.out, if_neg (by simp), if_pos (Or.inl h64)])
      clear HE
      go_enter Try.func80, Try.ntmps80
      go_wp2_with fail
      refine HC.out.mono ?_
      rintro e w' ⟨rfl, rfl⟩
      go_wp2_with fail
      go_ret3
      rw [HX.out]
      exact ⟨rfl, rfl⟩
    · by_cases h1 : x < 1
      · have HX : Hid (numE (x, k, 0) = 3) := Lib.hid (by rw [HE.out, if_neg (by simp), if_pos (Or.inr h1)])
        have hx0 : x ≤ 64 := by omega
        clear HE h64
        go_enter Try.func80, Try.ntmps80
        go_wp2_with fail
        refine HC.out.mono ?_
        rintro e w' ⟨rfl, rfl⟩
        go_wp2_with fail
        go_ret3
        rw [HX.out]
        exact ⟨by rw [show wrap64 x = x by unfold wrap64; omega]; rfl, rfl⟩
      · have HX : Hid (numE (x, k, 0) = 0) := Lib.hid (by rw [HE.out, if_neg (by simp), if_neg (by omega)])
        have hx0 : x ≤ 64 := by omega
        have hx1 : 1 ≤ x := by omega
        clear HE h64 h1
        go_enter Try.func80, Try.ntmps80
        go_wp2_with fail
        refine HC.out.mono ?_
        rintro e w' ⟨rfl, rfl⟩
        go_wp2_with fail
        go_ret3
        rw [HX.out]
        exact ⟨by rw [show wrap64 x = x by unfold wrap64; omega]; rfl, rfl⟩
  · have HX : Hid (numE (x, k, er) = er) := Lib.hid (by rw [HE.out, if_pos her])
    obtain rfl := hzx her
    have hq : (er == 0) = false := by rw [beq_eq_false_iff_ne]; exact her
    clear HE hok her hzx
    go_enter Try.func80, Try.ntmps80
    go_wp2_with fail
    refine HC.out.mono ?_
    rintro e w' ⟨rfl, rfl⟩
    go_wp2_with fail
    go_ret3
    rw [HX.out]
    exact ⟨by rw [show wrap64 0 = 0 by unfold wrap64; omega]; rfl, rfl⟩

set_option maxRecDepth 100000 in
set_option maxHeartbeats 1000000 in
/-- codec.read[int] at N's func, from 1 to 64. -/
theorem readn_any {W : World} {base r : Nat} {S : RS} {ao : Option Addr} {c : Nat} {fp : Option Addr} (mb lb : Nat) (hmb : W.heap[mb]? = some (.cells #[.int .i64 64] 3 (0, 0))) (hlb : W.heap[lb]? = some (.cells #[.int .i64 1] 3 (0, 0))) (h : Rdr W base r S ao c fp) :
    Calls Try.prog 79 #[.pointer (some ⟨r, 0, none⟩), .func (.func 80) #[] #[.pointer (some ⟨mb, 0, none⟩), .pointer (some ⟨lb, 0, none⟩)]] W fun e w' => e = .returned (.int .i64 (nR S).1) ∧ (∃ fp', Rdr w' base r (nR S).2 ao c fp') ∧ W.grownBy w' (some r) := by
  have HN := Lib.hid (rnone_any h)
  have HH := Lib.hid h
  obtain ⟨a0, a1, a2, a3, f0, f1, f2, f3⟩ := four h.hr
  rcases h.fa with ⟨h1, h2⟩ | ⟨e, a, f, h1, h2, _⟩
  · subst h2
    have h1' := Lib.hid h1
    have hle := h.le
    have hln := h.len
    obtain ⟨ao', hsl, hrb⟩ := slice_from h.own.rb h.le h.own.cap
    have hlen : (S.L.drop S.at_).length ≤ S.L.length := by rw [List.length_drop]; omega
    have hbs : Bs (S.L.drop S.at_) := h.bs.drop _
    have HC := Lib.hid (fun (n : Nat) => (n1_any mb lb ao' (S.L.drop S.at_) (c - S.at_) (W.drewN n) (hrb.drewN n) hbs (by omega) hmb hlb).mono (fun _ _ hp => And.intro hp.1 hp.2.symm))
    have hok := fun h0 => numR_ok hbs h0
    rw [List.length_drop] at hok
    have hu : nR S = if numE (numR (S.L.drop S.at_)) ≠ 0 then (0, { S with ft := some (numE (numR (S.L.drop S.at_)), (S.at_ : Int)) }) else ((numR (S.L.drop S.at_)).1, { S with at_ := S.at_ + (numR (S.L.drop S.at_)).2.1.toNat }) := by
      unfold nR; rw [if_neg (by simp [h1])]
    have hne : numE (numR (S.L.drop S.at_)) = 0 → (numR (S.L.drop S.at_)).2.2 = 0 ∧ 1 ≤ (numR (S.L.drop S.at_)).1 ∧ (numR (S.L.drop S.at_)).1 ≤ 64 := fun h0 => by
      unfold numE at h0
      by_cases g : (numR (S.L.drop S.at_)).2.2 = 0
      · rw [if_neg (by simp [g])] at h0
        split at h0
        · cases h0
        · exact ⟨g, by omega, by omega⟩
      · rw [if_pos g] at h0; exact absurd h0 g
    generalize hEE : numE (numR (S.L.drop S.at_)) = er at *
    clear hEE
    generalize numR (S.L.drop S.at_) = R at *
    obtain ⟨x, k, er0⟩ := R
    dsimp only at *
    have HU := Lib.hid hu
    have HSL := Lib.hid hsl
    have HF := Lib.hid (fun (n : Nat) => rfail_any (HH.out.step (below_drewN (Below.refl _ W) n)) h1)
    generalize (S.L.drop S.at_).length = dl at *
    clear hu h1 hrb hbs h
    by_cases her : er = 0
    · subst her
      obtain ⟨g1, g2, g3⟩ := hne rfl
      obtain ⟨k0, k1, x0, x1⟩ := hok g1
      have hwx : Hid (wrap64 x = x) := Lib.hid (by unfold wrap64; omega)
      rw [hwx.out] at HC
      have hk2 : (S.at_ : Int) + k ≤ S.L.length := by omega
      clear hok hne g1
      go_enter Try.func79, Try.ntmps79
      go_wp2_with fail
      refine HN.out.mono ?_
      rintro en w' ⟨rfl, rfl⟩
      go_wp2_with fail
      go_quiet ((go_at_call 80; exact Calls.quiet_of_same (HC.out _)))
      go_wp2_with fail
      go_ret
      have hd := HH.out.step (below_drewN (Below.refl _ W) nq)
      rw [HU.out, if_neg (by simp)]
      refine ⟨rfl, ⟨none, ?_, hd.own.setCell (a := ⟨r, 1, none⟩) hd.ne _, hd.ne, hd.lo, .inl ⟨h1'.out, rfl⟩, hd.bs, by simp only; omega, hd.len⟩, grown_trans (grown_below _ (below_drewN (Below.refl _ W) nq)) (grown_set _)⟩
      have := heap4_set1 hd.hr (.int .i64 ((S.at_ : Int) + k))
      rw [show (((S.at_ + k.toNat : Nat) : Int)) = (S.at_ : Int) + k by omega]
      exact this
    · have hq : (er == 0) = false := by rw [beq_eq_false_iff_ne]; exact her
      have hq' : (er != 0) = true := by simpa using her
      have HE := Lib.hid her
      clear hok her hne
      go_enter Try.func79, Try.ntmps79
      go_wp2_with fail
      refine HN.out.mono ?_
      rintro en w' ⟨rfl, rfl⟩
      go_wp2_with fail
      go_quiet ((go_at_call 80; exact Calls.quiet_of_same (HC.out _)))
      go_wp2_with fail
      refine (HF.out nq er S.at_ HE.out).mono ?_
      rintro en w2 ⟨rfl, hR, hg⟩
      have HR := Lib.hid (And.intro hR hg)
      clear hR hg
      go_wp2_with fail
      go_ret
      rw [HU.out, if_pos HE.out]
      exact ⟨rfl, HR.out.1, grown_trans (grown_below _ (below_drewN (Below.refl _ W) nq)) HR.out.2⟩
  · subst h2
    have HU : Hid (nR S = (0, S)) := Lib.hid (by unfold nR; rw [if_pos (by rw [h1]; simp)])
    clear h h1
    go_enter Try.func79, Try.ntmps79
    go_wp2_with fail
    refine HN.out.mono ?_
    rintro en w' ⟨rfl, rfl⟩
    go_wp2_with fail
    go_ret
    rw [HU.out]
    exact ⟨rfl, ⟨_, HH.out⟩, grown_below _ (Below.refl _ _)⟩


set_option maxHeartbeats 400000 in
/-- (*codec.Reader).N, from 1 to 64. -/
theorem n_any {W : World} {base r : Nat} {S : RS} {ao : Option Addr} {c : Nat} {fp : Option Addr} (h : Rdr W base r S ao c fp) :
    Calls Try.prog 60 #[.pointer (some ⟨r, 0, none⟩), .int .i64 1, .int .i64 64] W fun e w' => e = .returned (.int .i64 (nR S).1) ∧ (∃ fp', Rdr w' base r (nR S).2 ao c fp') ∧ W.grownBy w' (some r) := by
  have hW := ((Below.refl W.heap.size W).alloc (Nat.le_refl _) (.cells #[.int .i64 1] 3)).alloc (by simp) (.cells #[.int .i64 64] 3)
  have HR := Lib.hid (readn_any (W.heap.size + 1) W.heap.size (heap_at (W.alloc (.cells #[.int .i64 1] 3)) (.cells #[.int .i64 64] 3) (by simp)) ((heap_old _ _ (by simp)).trans (heap_at W (.cells #[.int .i64 1] 3) rfl)) (h.step hW))
  have HW := Lib.hid hW
  clear h hW
  go_enter Try.func60, Try.ntmps60
  go_wp2_with fail
  refine HR.out.mono ?_
  rintro e w' ⟨rfl, hR, hg⟩
  go_wp2_with fail
  go_ret
  exact ⟨rfl, hR, grown_trans (grown_below _ HW.out) hg⟩
end Go.Proofs.Ytjiffflhedekfaa
