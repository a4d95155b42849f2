/- Rq1, Rq2, Rq3, Rq4, Rq5, Rq6: texts of this claim, merged. -/
import Derived.Test.YtjiffflhedekfaaNum
import Derived.Test.YtjiffflhedekfaaBk
import Derived.Test.YtjiffflhedekfaaRdM
import Derived.Deep.RegionHeld3
import Derived.WalkLawsBesides
import Derived.Deep.RegionLaw
import Derived.Deep.AppendLies
import Derived.Maps.AppendAt
section
/- The reference's Get: the number that bytes begin with, from a place on. -/
namespace Go.Proofs.Ytjiffflhedekfaa
open Go.RowKit

/-- What Get tells. -/
def getR (L : List Int) (at_ : Nat) : Int × Int × Int × Int :=
  if (numR (L.drop at_)).2.2 = 0 then ((numR (L.drop at_)).1, at_ + (numR (L.drop at_)).2.1, 0, 0) else (0, 0, (numR (L.drop at_)).2.2, at_)
def GetP (w : World) (L : List Int) (at_ : Nat) (e : Ending) (w' : World) : Prop :=
  e = .returned (.tuple #[.int .u64 (getR L at_).1, .int .i64 (getR L at_).2.1, .agg #[.int .i64 (getR L at_).2.2.1, .int .i64 (getR L at_).2.2.2]]) ∧ Below w.heap.size w w'
theorem getP_err {w w' : World} {L : List Int} {at_ : Nat} {a b c : Int} (h : numR (L.drop at_) = (a, b, c)) (hc : c ≠ 0) (hb : Below w.heap.size w w') : GetP w L at_ (.returned (.tuple #[.int .u64 0, .int .i64 0, .agg #[.int .i64 c, .int .i64 at_]])) w' := by
  refine ⟨?_, hb⟩
  unfold getR
  rw [h]
  simp only
  rw [if_neg hc]
theorem getP_ok {w w' : World} {L : List Int} {at_ : Nat} {a b : Int} {v : Int} (h : numR (L.drop at_) = (a, b, 0)) (hv : v = at_ + b) (hb : Below w.heap.size w w') : GetP w L at_ (.returned (.tuple #[.int .u64 a, .int .i64 v, .agg #[.int .i64 0, .int .i64 0]])) w' := by
  refine ⟨?_, hb⟩
  unfold getR
  rw [h, hv]
  simp only [if_true]

theorem acc_step' {m x : Int} {k : Nat} (hm0 : 0 ≤ m) (hm1 : m < 128 ^ k) (hx0 : 0 ≤ x) (hx1 : x < 256) (hk : k ≤ 9) (h9 : k = 9 → x ≤ 1) :
    bits .or .u64 m (IntKind.u64.wrap (x % 128 * 2 ^ (7 * k))) = m + x % 128 * 128 ^ k ∧ 0 ≤ m + x % 128 * 128 ^ k ∧ (k ≤ 8 → m + x % 128 * 128 ^ k < 128 ^ (k + 1)) := by
  have h := acc_step hm0 hm1 hx0 hx1 hk h9
  have e1 : bits .and .u8 x 127 = x % 128 := by
    rw [u8_and x 127 hx0 hx1 (by omega) (by omega)]
    rw [show ((127 : Int)).toNat = 127 from rfl, nat_mask7]
    omega
  rw [e1, show IntKind.u64.wrap (x % 128) = x % 128 by rw [IntKind.wrap_u64]; omega] at h
  exact h

set_option maxRecDepth 100000 in
set_option maxHeartbeats 1600000 in
theorem get_any (ao : Option Addr) (L : List Int) (c : Nat) (at_ : Nat) (w : World) (hl : Rb w ao L) (bl : Bs L) (nl : L.length ≤ 140737488355328) (ha : at_ ≤ L.length) :
    Calls Try.prog 85 #[.slice ao L.length c, .int .i64 at_] w (GetP w L at_) := by
  have hb0 := Lib.hid ((Below.refl w.heap.size w).alloc (Nat.le_refl _) (.cells #[.int .i64 0, .int .i64 0] 49))
  go_enter Try.func85, Try.ntmps85
  go_wp2
  go_loop [7, 8, 9] (fun n i _ => ∃ (k : Nat) (m : Int), at_ + k ≤ L.length ∧ k ≤ 9 ∧ n = .int .u64 m ∧ i = .int .i64 k ∧ 0 ≤ m ∧ m < 128 ^ k ∧ numR (L.drop at_) = numF k m (L.drop (at_ + k)))
    (fun _ i _ => L.length - (intOf i).toNat)
  case atStart => exact ⟨0, 0, by omega, by omega, rfl, rfl, by omega, by simp, rfl⟩
  case round =>
    obtain ⟨k, m, hk, hk9, rfl, rfl, hm0, hm1, hr⟩ := hrel
    by_cases hlt : at_ + k < L.length
    · obtain ⟨b, o, rfl, hc⟩ := hl (at_ + k) hlt
      have hx := bl.at hlt
      have hc := ((Below.refl w.heap.size w).alloc (Nat.le_refl _) (.cells #[.int .i64 0, .int .i64 0] 49)).cell (p := ⟨b, o + (at_ + k), none⟩) (World.block_lt_of_cell? w _ hc) |>.trans hc
      have hd : L.drop (at_ + k) = L.getD (at_ + k) 0 :: L.drop (at_ + k + 1) := by rw [List.drop_eq_getElem_cons hlt, getD_at hlt]
      rw [hd] at hr
      generalize L.getD (at_ + k) 0 = x at *
      rw [numF] at hr
      have hst := @acc_step' m x k hm0 hm1 hx.1 hx.2 hk9
      clear hd hm1
      have hn : ((at_ : Int) + (k : Int)).toNat = at_ + k := by omega
      have hn0 : (0 : Int) ≤ (at_ : Int) + (k : Int) := by omega
      have hL : ((at_ : Int) + (k : Int) < (L.length : Int)) := by omega
      by_cases c9 : k = 9
      · have h9 : ((k : Int) == 9) = true := by rw [beq_iff_eq]; omega
        by_cases c1 : 1 < x
        · have hx0 : (x == 0) = false := by rw [beq_eq_false_iff_ne]; omega
          rw [if_pos (Or.inl ⟨c9, c1⟩)] at hr
          have HR := Lib.hid hr
          clear hr hst c9
          go_wp2
          refine bodyPost_ret (v := .tuple #[.int .u64 0, .int .i64 0, .agg #[.int .i64 5, .int .i64 at_]]) (by simp [results, Try.results85, go_sem]) rfl ?_
          exact getP_err HR.out (by decide) ((Below.refl _ _).alloc (Nat.le_refl _) _)
        · have hk0 : 0 < k := by omega
          by_cases c0 : x = 0
          · have hx0 : (x == 0) = true := by simpa using c0
            rw [if_pos (Or.inr ⟨hk0, c0⟩)] at hr
            have HR := Lib.hid hr
            have hx1 : x ≤ 1 := by omega
            clear hr hst c9 c1 c0
            go_wp2
            refine bodyPost_ret (v := .tuple #[.int .u64 0, .int .i64 0, .agg #[.int .i64 5, .int .i64 at_]]) (by simp [results, Try.results85, go_sem]) rfl ?_
            exact getP_err HR.out (by decide) ((Below.refl _ _).alloc (Nat.le_refl _) _)
          · have hx0 : (x == 0) = false := by rw [beq_eq_false_iff_ne]; exact c0
            have h128 : x < 128 := by omega
            have hx1 : x ≤ 1 := by omega
            rw [if_neg (by omega), if_pos h128] at hr
            obtain ⟨hs1, hs2, hs3⟩ := hst (fun _ => hx1)
            have HR := Lib.hid hr
            have HS := Lib.hid hs1
            clear hr hst hs1 hs2 hs3 c9 c1 c0
            go_wp2
            refine bodyPost_ret (v := .tuple #[.int .u64 (bits .or .u64 m (IntKind.u64.wrap (x % 128 * 2 ^ (7 * k)))), .int .i64 (at_ + (k + 1)), .agg #[.int .i64 0, .int .i64 0]]) (by simp [results, Try.results85, go_sem]) rfl ?_
            rw [HS.out]
            exact getP_ok HR.out (by omega) ((Below.refl _ _).alloc (Nat.le_refl _) _)
      · have h9 : ((k : Int) == 9) = false := by rw [beq_eq_false_iff_ne]; omega
        have hk8 : k ≤ 8 := by omega
        by_cases ck : 0 < k
        · by_cases c0 : x = 0
          · have hx0 : (x == 0) = true := by simpa using c0
            rw [if_pos (Or.inr ⟨ck, c0⟩)] at hr
            have HR := Lib.hid hr
            clear hr hst c9 c0
            go_wp2
            refine bodyPost_ret (v := .tuple #[.int .u64 0, .int .i64 0, .agg #[.int .i64 5, .int .i64 at_]]) (by simp [results, Try.results85, go_sem]) rfl ?_
            exact getP_err HR.out (by decide) ((Below.refl _ _).alloc (Nat.le_refl _) _)
          · have hx0 : (x == 0) = false := by rw [beq_eq_false_iff_ne]; exact c0
            by_cases h128 : x < 128
            · rw [if_neg (by omega), if_pos h128] at hr
              obtain ⟨hs1, hs2, hs3⟩ := hst (fun h => by omega)
              have HR := Lib.hid hr
              have HS := Lib.hid hs1
              clear hr hst hs1 hs2 hs3 c9 c0
              go_wp2
              refine bodyPost_ret (v := .tuple #[.int .u64 (bits .or .u64 m (IntKind.u64.wrap (x % 128 * 2 ^ (7 * k)))), .int .i64 (at_ + (k + 1)), .agg #[.int .i64 0, .int .i64 0]]) (by simp [results, Try.results85, go_sem]) rfl ?_
              rw [HS.out]
              exact getP_ok HR.out (by omega) ((Below.refl _ _).alloc (Nat.le_refl _) _)
            · rw [if_neg (by omega), if_neg h128] at hr
              obtain ⟨hs1, hs2, hs3⟩ := hst (fun h => by omega)
              have hs3 := hs3 (by omega)
              have HR := Lib.hid hr
              have HS := Lib.hid hs1
              have HT := Lib.hid (And.intro hs2 hs3)
              have hge : 128 ≤ x := by omega
              clear hr hst hs1 hs2 hs3 h128 c9 c0
              go_wp2
              go_round
              case rel => exact ⟨_, _, _, _, ⟨k + 1, by omega, by omega, m + x % 128 * 128 ^ k, by rw [HS.out], by go_num, HT.out.1, HT.out.2, HR.out⟩, rfl, rfl, rfl, rfl⟩
              case measure => simp [intOf]; omega
        · have hk0 : k ≤ 0 := by omega
          by_cases h128 : x < 128
          · rw [if_neg (by omega), if_pos h128] at hr
            obtain ⟨hs1, hs2, hs3⟩ := hst (fun h => by omega)
            have HR := Lib.hid hr
            have HS := Lib.hid hs1
            clear hr hst hs1 hs2 hs3 c9 ck
            go_wp2
            refine bodyPost_ret (v := .tuple #[.int .u64 (bits .or .u64 m (IntKind.u64.wrap (x % 128 * 2 ^ (7 * k)))), .int .i64 (at_ + (k + 1)), .agg #[.int .i64 0, .int .i64 0]]) (by simp [results, Try.results85, go_sem]) rfl ?_
            rw [HS.out]
            exact getP_ok HR.out (by omega) ((Below.refl _ _).alloc (Nat.le_refl _) _)
          · rw [if_neg (by omega), if_neg h128] at hr
            obtain ⟨hs1, hs2, hs3⟩ := hst (fun h => by omega)
            have hs3 := hs3 (by omega)
            have HR := Lib.hid hr
            have HS := Lib.hid hs1
            have HT := Lib.hid (And.intro hs2 hs3)
            have hge : 128 ≤ x := by omega
            clear hr hst hs1 hs2 hs3 h128 c9 ck
            go_wp2
            go_round
            case rel => exact ⟨_, _, _, _, ⟨k + 1, by omega, by omega, m + x % 128 * 128 ^ k, by rw [HS.out], by go_num, HT.out.1, HT.out.2, HR.out⟩, rfl, rfl, rfl, rfl⟩
            case measure => simp [intOf]; omega
    · clear hl bl
      have hz : L.drop (at_ + k) = [] := List.drop_eq_nil_of_le (by omega)
      rw [hz, numF] at hr
      have HR := Lib.hid hr
      clear hr
      go_wp2
      refine bodyPost_ret (v := .tuple #[.int .u64 0, .int .i64 0, .agg #[.int .i64 6, .int .i64 at_]]) (by simp [results, Try.results85, go_sem]) rfl ?_
      exact getP_err HR.out (by decide) ((Below.refl _ _).alloc (Nat.le_refl _) _)
end Go.Proofs.Ytjiffflhedekfaa
end
section
/- The reference's reader. -/
namespace Go.Proofs.Ytjiffflhedekfaa
open Go.RowKit

def RS.e (S : RS) : Int := match S.ft with | none => 0 | some (e, _) => e
def RS.a (S : RS) : Int := match S.ft with | none => 0 | some (_, a) => a
/-- It lies there: its bytes, its place, its fault. -/
structure Rq (W : World) (base r : Nat) (S : RS) (ao : Option Addr) (c : Nat) : Prop where
  hr : W.heap[r]? = some (.cells #[.slice ao S.L.length c, .int .i64 S.at_, .int .i64 S.e, .int .i64 S.a] 108 (0, 0))
  own : OwnY W base ao c S.L
  ne : ∀ p, ao = some p → p.block ≠ r
  lo : base ≤ r
  bs : Bs S.L
  le : S.at_ ≤ S.L.length
  len : S.L.length ≤ 140737488355328
  ft : ∀ e a, S.ft = some (e, a) → e ≠ 0
theorem RS.e_none {S : RS} (h : S.ft = none) : S.e = 0 := by unfold RS.e; rw [h]
theorem RS.a_none {S : RS} (h : S.ft = none) : S.a = 0 := by unfold RS.a; rw [h]
section
variable {W : World} {base r : Nat} {S : RS} {ao : Option Addr} {c : Nat}
theorem Rq.e_some (h : Rq W base r S ao c) (hf : S.ft ≠ none) : S.e ≠ 0 := by
  unfold RS.e
  cases hs : S.ft with
  | none => exact absurd hs hf
  | some p => exact h.ft p.1 p.2 hs
theorem Rq.step (h : Rq W base r S ao c) {W' : World} (hb : Below W.heap.size W W') : Rq W' base r S ao c :=
  ⟨(hb.block _ (lt_of_block h.hr)).trans h.hr, h.own.below hb, h.ne, h.lo, h.bs, h.le, h.len, h.ft⟩
end

set_option maxHeartbeats 400000 in
theorem refNewReader_any (ao : Option Addr) (l : List Int) (c : Nat) (w : World) (hl : Rb w ao l) (bl : Bs l) (nl : l.length ≤ 140737488355328) :
    Calls Try.prog 63 #[.slice ao l.length c] w fun e w' => ∃ r ao' c', e = .returned (.pointer (some ⟨r, 0, none⟩)) ∧ Rq w' w.heap.size r ⟨l, 0, none⟩ ao' c' ∧ Below w.heap.size w w' := by
  have HC := Lib.hid (copyBytes_any ao l c w hl nl)
  have HB := Lib.hid bl
  clear hl bl
  go_enter Try.func63, Try.ntmps63
  go_wp2_with fail
  refine HC.out.mono ?_
  rintro e w2 ⟨g, cap, rfl, hown, hb⟩
  have HO := Lib.hid (OwnY.mono (base' := w.heap.size) hown (Nat.le_refl _))
  have HB2 := Lib.hid hb
  have hlt := (HO.out.low _ rfl).2
  clear hown hb
  go_wp2_with fail
  go_ret
  exact ⟨w2.heap.size, some ⟨g, 0, none⟩, cap, rfl, ⟨heap_at w2 _ rfl, HO.out.alloc _, fun p hp => by cases hp; simp only at hlt ⊢; omega, HB2.out.size, HB.out, Nat.zero_le _, nl, fun e a h => by cases h⟩, HB2.out.alloc HB2.out.size _⟩
end Go.Proofs.Ytjiffflhedekfaa
end
section
/- The reference's reader: Fail, U. -/
namespace Go.Proofs.Ytjiffflhedekfaa
open Go.RowKit

theorem heap4_set23 {w : World} {b : Nat} {v0 v1 v2 v3 : Value} {t : TypeId} (h : w.heap[b]? = some (.cells #[v0, v1, v2, v3] t (0, 0))) (x y : Value) :
    ((w.setCell ⟨b, 2, none⟩ x).setCell ⟨b, 3, none⟩ y).heap[b]? = some (.cells #[v0, v1, x, y] t (0, 0)) := by
  simp [World.setCell, Array.getElem?_modify, h]
theorem Rq.lt {W : World} {base r : Nat} {S : RS} {ao : Option Addr} {c : Nat} (h : Rq W base r S ao c) : r < W.heap.size := (Array.getElem?_eq_some_iff.1 h.hr).1
theorem Rq.fault {W : World} {base r : Nat} {S : RS} {ao : Option Addr} {c : Nat} (h : Rq W base r S ao c) (e a : Int) (he : e ≠ 0) :
    Rq ((W.setCell ⟨r, 2, none⟩ (.int .i64 e)).setCell ⟨r, 3, none⟩ (.int .i64 a)) base r { S with ft := some (e, a) } ao c :=
  ⟨heap4_set23 h.hr _ _, (h.own.setCell (a := ⟨r, 2, none⟩) h.ne _).setCell (a := ⟨r, 3, none⟩) h.ne _, h.ne, h.lo, h.bs, h.le, h.len, fun e' a' hp => by cases hp; exact he⟩
theorem Rq.to {W : World} {base r : Nat} {S : RS} {ao : Option Addr} {c : Nat} (h : Rq W base r S ao c) (k : Nat) (v : Int) (hv : v = (k : Int)) (hk : k ≤ S.L.length) :
    Rq (W.setCell ⟨r, 1, none⟩ (.int .i64 v)) base r { S with at_ := k } ao c :=
  ⟨by rw [hv]; exact heap4_set1 h.hr _, h.own.setCell (a := ⟨r, 1, none⟩) h.ne _, h.ne, h.lo, h.bs, hk, h.len, h.ft⟩

set_option maxHeartbeats 400000 in
theorem refFail_any {W : World} {base r : Nat} {S : RS} {ao : Option Addr} {c : Nat} (h : Rq W base r S ao c) (hf : S.ft = none) (e a : Int) (he : e ≠ 0) :
    Calls Try.prog 84 #[.pointer (some ⟨r, 0, none⟩), .int .i64 e, .int .i64 a] W fun en w' => en = .returned (.tuple #[]) ∧ Rq w' base r { S with ft := some (e, a) } ao c ∧ W.grownBy w' (some r) := by
  have HH := Lib.hid h
  obtain ⟨a0, a1, a2, a3, f0, f1, f2, f3⟩ := four h.hr
  rw [RS.e_none hf] at a2
  have hlt := h.lt
  have hq : (e == 0) = false := by rw [beq_eq_false_iff_ne]; exact he
  have hq' : (e != 0) = true := by simpa using he
  have HE := Lib.hid he
  clear h he hf
  go_enter Try.func84, Try.ntmps84
  go_wp2_with fail
  go_end0
  exact ⟨rfl, HH.out.fault e a HE.out, grown_trans (grown_set _) (grown_set _)⟩

set_option maxRecDepth 100000 in
set_option maxHeartbeats 1600000 in
theorem refU_any {W : World} {base r : Nat} {S : RS} {ao : Option Addr} {c : Nat} (h : Rq W base r S ao c) :
    Calls Try.prog 65 #[.pointer (some ⟨r, 0, none⟩)] W fun e w' => e = .returned (.int .u64 (uR S).1) ∧ Rq w' base r (uR S).2 ao c ∧ W.grownBy w' (some r) := by
  have HH := Lib.hid h
  by_cases hf : S.ft = none
  · obtain ⟨a0, a1, a2, a3, f0, f1, f2, f3⟩ := four h.hr
    rw [RS.e_none hf] at a2
    have hlt := h.lt
    have h1' := Lib.hid hf
    have hle := h.le
    have hbs : Bs (S.L.drop S.at_) := h.bs.drop _
    have HC := Lib.hid (fun W' (hb : Below W.heap.size W W') => get_any ao S.L c S.at_ W' (h.own.below hb).rb h.bs h.len h.le)
    have HS := Lib.hid (fun W' (hb : Below W.heap.size W W') => four (h.step hb).hr)
    have hok := fun h0 => numR_ok hbs h0
    rw [List.length_drop] at hok
    have hu : uR S = if (numR (S.L.drop S.at_)).2.2 ≠ 0 then (0, { S with ft := some ((numR (S.L.drop S.at_)).2.2, (S.at_ : Int)) }) else ((numR (S.L.drop S.at_)).1, { S with at_ := S.at_ + (numR (S.L.drop S.at_)).2.1.toNat }) := by
      unfold uR; rw [if_neg (by simp [hf])]
    unfold GetP getR at HC
    generalize numR (S.L.drop S.at_) = R at *
    obtain ⟨x, k, er⟩ := R
    dsimp only at *
    have HU := Lib.hid hu
    clear hu hbs h hf
    have HX := Lib.hid (fun (w' : World) (hb : Below (W.alloc (.cells #[.int .i64 0, .int .i64 0] 49)).heap.size (W.alloc (.cells #[.int .i64 0, .int .i64 0] 49)).drew w') => two ((hb.block W.heap.size (by simp)).trans (heap_at W (.cells #[.int .i64 0, .int .i64 0] 49) rfl)))
    have HB0 := Lib.hid (((Below.refl W.heap.size W).alloc (Nat.le_refl _) (.cells #[.int .i64 0, .int .i64 0] 49)).drew)
    have hne : r ≠ W.heap.size := by omega
    by_cases her : er = 0
    · subst her
      obtain ⟨k0, k1, x0, x1⟩ := hok rfl
      simp only [if_true] at HC
      have hlen := HH.out.len
      have hk2 : (S.at_ : Int) + k ≤ S.L.length := by omega
      obtain ⟨kk, hkk⟩ : ∃ kk : Nat, k = kk := ⟨k.toNat, by omega⟩
      subst hkk
      have HK : Hid (uR S = (x, { S with at_ := S.at_ + kk })) := Lib.hid (by rw [HU.out, if_neg (by simp)]; simp)
      clear hok HU
      go_enter Try.func65, Try.ntmps65
      go_wp2_with fail
      go_region_held3 (fun w' => w'.cell? ⟨r, 0, none⟩ = some (.slice ao S.L.length c) ∧ w'.cell? ⟨r, 1, none⟩ = some (.int .i64 S.at_))
        (first | assumption | (exact ⟨b0, b1⟩) | (refine ⟨?_, ?_⟩ <;> (simp [go_sem, b0, b1, hne, hne.symm]; done)) | (refine ⟨?_, ?_⟩ <;> (simp [go_sem, a0, a1, hne, hne.symm]; done)) | go_keep)
        (first | (go_at_call 85; refine (HC.out W.drew (Below.refl W.heap.size W).drew).mono ?_; rintro e' w1 ⟨rfl, hb⟩; have hb1 := (Below.refl W.heap.size W).drew.trans hb; obtain ⟨b0, b1, b2, b3, g0, g1, g2, g3⟩ := HS.out _ hb1; have hlt1 := hb1.size; have hlr : r < w1.heap.size := (by omega); have hne1 : r ≠ w1.heap.size := (by omega); have HB := Lib.hid hb1; clear hb hb1) | (go_at_call 85; refine (HC.out _ HB0.out).mono ?_; rintro e' w1 ⟨rfl, hb⟩; obtain ⟨y0, y1, z0, z1⟩ := HX.out w1 hb; have hlt2 : W.heap.size < w1.heap.size := (by have := hb.size; simp at this; omega); have hb1 := HB0.out.trans (hb.mono (by simp)); obtain ⟨b0, b1, b2, b3, g0, g1, g2, g3⟩ := HS.out _ hb1; have hlr : r < w1.heap.size := (by omega); have HB := Lib.hid hb1; clear hb hb1))
      all_goals
        go_wp2_with fail
        go_ret
        rw [HK.out]
        refine ⟨rfl, ?_⟩
      · exact ⟨((HH.out.step HB.out).to (S.at_ + kk) ((S.at_ : Int) + kk) (by omega) (by omega)).step ((Below.refl _ _).alloc (Nat.le_refl _) _), grown_trans (grown_trans (grown_below _ HB.out) (grown_set _)) (World.grownBy_alloc _ _ _)⟩
      · have hB := (HB.out.setCell (p := ⟨W.heap.size, 0, none⟩) (Nat.le_refl _) (.int .i64 0)).setCell (p := ⟨W.heap.size, 1, none⟩) (Nat.le_refl _) (.int .i64 0)
        exact ⟨(HH.out.step hB).to (S.at_ + kk) ((S.at_ : Int) + kk) (by omega) (by omega), grown_trans (grown_below _ hB) (grown_set _)⟩
    · have hq : (er == 0) = false := by rw [beq_eq_false_iff_ne]; exact her
      have hq' : (er != 0) = true := by simpa using her
      have HE := Lib.hid her
      have HK : Hid (uR S = (0, { S with ft := some (er, (S.at_ : Int)) })) := Lib.hid (by rw [HU.out, if_pos her])
      simp only [if_neg her] at HC
      clear hok HU her
      go_enter Try.func65, Try.ntmps65
      go_wp2_with fail
      go_region_held3 (fun w' => w'.cell? ⟨r, 0, none⟩ = some (.slice ao S.L.length c) ∧ w'.cell? ⟨r, 1, none⟩ = some (.int .i64 S.at_))
        (first | assumption | (exact ⟨b0, b1⟩) | (refine ⟨?_, ?_⟩ <;> (simp [go_sem, b0, b1, hne, hne.symm]; done)) | (refine ⟨?_, ?_⟩ <;> (simp [go_sem, a0, a1, hne, hne.symm]; done)) | go_keep)
        (first | (go_at_call 85; refine (HC.out W.drew (Below.refl W.heap.size W).drew).mono ?_; rintro e' w1 ⟨rfl, hb⟩; have hb1 := (Below.refl W.heap.size W).drew.trans hb; obtain ⟨b0, b1, b2, b3, g0, g1, g2, g3⟩ := HS.out _ hb1; have hlt1 := hb1.size; have hlr : r < w1.heap.size := (by omega); have hne1 : r ≠ w1.heap.size := (by omega); have HB := Lib.hid hb1; clear hb hb1) | (go_at_call 85; refine (HC.out _ HB0.out).mono ?_; rintro e' w1 ⟨rfl, hb⟩; obtain ⟨y0, y1, z0, z1⟩ := HX.out w1 hb; have hlt2 : W.heap.size < w1.heap.size := (by have := hb.size; simp at this; omega); have hb1 := HB0.out.trans (hb.mono (by simp)); obtain ⟨b0, b1, b2, b3, g0, g1, g2, g3⟩ := HS.out _ hb1; have hlr : r < w1.heap.size := (by omega); have HB := Lib.hid hb1; clear hb hb1))
      all_goals
        go_wp2_with fail
        go_ret
        rw [HK.out]
        refine ⟨rfl, ?_⟩
      · exact ⟨((HH.out.step HB.out).fault er _ HE.out).step ((Below.refl _ _).alloc (Nat.le_refl _) _), grown_trans (grown_trans (grown_trans (grown_below _ HB.out) (grown_set _)) (grown_set _)) (World.grownBy_alloc _ _ _)⟩
      · have hB := (HB.out.setCell (p := ⟨W.heap.size, 0, none⟩) (Nat.le_refl _) (.int .i64 er)).setCell (p := ⟨W.heap.size, 1, none⟩) (Nat.le_refl _) (.int .i64 S.at_)
        exact ⟨(HH.out.step hB).fault er _ HE.out, grown_trans (grown_below _ hB) (grown_trans (grown_set _) (grown_set _))⟩
  · obtain ⟨a0, a1, a2, a3, f0, f1, f2, f3⟩ := four h.hr
    have hq : (S.e == 0) = false := by rw [beq_eq_false_iff_ne]; exact h.e_some hf
    have hq' : (S.e != 0) = true := by simpa using h.e_some hf
    have HK : Hid (uR S = (0, S)) := Lib.hid (by unfold uR; rw [if_pos hf])
    clear h hf
    go_enter Try.func65, Try.ntmps65
    go_wp2_with fail
    go_ret
    rw [HK.out]
    exact ⟨rfl, HH.out, grown_below _ (Below.refl _ _)⟩
end Go.Proofs.Ytjiffflhedekfaa
end
section
/- The reference's reader: N, End. -/
namespace Go.Proofs.Ytjiffflhedekfaa
open Go.RowKit

/-- What the reference's N tells, from 1 to 64, and the reader behind it. -/
def nQ (S : RS) : Int × RS :=
  if (uR S).2.ft ≠ none then (0, (uR S).2) else
  if 64 < (uR S).1 ∨ (uR S).1 < 1 then (0, { (uR S).2 with ft := some (3, (S.at_ : Int)) }) else uR S

set_option maxRecDepth 100000 in
set_option maxHeartbeats 1600000 in
theorem refN_any {W : World} {base r : Nat} {S : RS} {ao : Option Addr} {c : Nat} (h : Rq W base r S ao c) :
    Calls Try.prog 64 #[.pointer (some ⟨r, 0, none⟩), .int .i64 1, .int .i64 64] W fun e w' => e = .returned (.int .i64 (nQ S).1) ∧ Rq w' base r (nQ S).2 ao c ∧ W.grownBy w' (some r) := by
  have HU := Lib.hid (refU_any h)
  have hx := (uR_ok ⟨h.bs, h.le⟩).2.1
  have hx0 := hx.1
  have hx1 := hx.2
  obtain ⟨a0, a1, a2, a3, f0, f1, f2, f3⟩ := four h.hr
  have HN : Hid (nQ S = if (uR S).2.ft ≠ none then (0, (uR S).2) else if 64 < (uR S).1 ∨ (uR S).1 < 1 then (0, { (uR S).2 with ft := some (3, (S.at_ : Int)) }) else uR S) := Lib.hid rfl
  generalize uR S = U at *
  obtain ⟨x, S'⟩ := U
  dsimp only at *
  clear hx h
  by_cases hf : S'.ft = none
  · have HF := Lib.hid hf
    by_cases h64 : 64 < x
    · have HK : Hid (nQ S = (0, { S' with ft := some (3, (S.at_ : Int)) })) := Lib.hid (by rw [HN.out, if_neg (by simp [hf]), if_pos (Or.inl h64)])
      clear HN hf
      go_enter Try.func64, Try.ntmps64
      go_wp2_with fail
      refine HU.out.mono ?_
      rintro e w2 ⟨rfl, hr, hg⟩
      obtain ⟨b0, b1, b2, b3, g0, g1, g2, g3⟩ := four hr.hr
      rw [RS.e_none HF.out] at b2
      have HFl := Lib.hid (refFail_any hr HF.out 3 S.at_ (by decide))
      have HG := Lib.hid hg
      clear hr hg
      go_wp2_with fail
      refine HFl.out.mono ?_
      rintro e w3 ⟨rfl, hr, hg⟩
      obtain ⟨c0, c1, c2, c3, _⟩ := four hr.hr
      replace c2 : w3.cell? ⟨r, 2, none⟩ = some (.int .i64 3) := c2
      have HR := Lib.hid hr
      have HG2 := Lib.hid hg
      clear hr hg b0 b1 b2 b3
      go_wp2_with fail
      go_ret
      rw [HK.out]
      exact ⟨rfl, HR.out, grown_trans HG.out HG2.out⟩
    · by_cases h1 : x < 1
      · have HK : Hid (nQ S = (0, { S' with ft := some (3, (S.at_ : Int)) })) := Lib.hid (by rw [HN.out, if_neg (by simp [hf]), if_pos (Or.inr h1)])
        have hx2 : x ≤ 64 := by omega
        clear HN hf h64
        go_enter Try.func64, Try.ntmps64
        go_wp2_with fail
        refine HU.out.mono ?_
        rintro e w2 ⟨rfl, hr, hg⟩
        obtain ⟨b0, b1, b2, b3, g0, g1, g2, g3⟩ := four hr.hr
        rw [RS.e_none HF.out] at b2
        have HFl := Lib.hid (refFail_any hr HF.out 3 S.at_ (by decide))
        have HG := Lib.hid hg
        clear hr hg
        go_wp2_with fail
        refine HFl.out.mono ?_
        rintro e w3 ⟨rfl, hr, hg⟩
        obtain ⟨c0, c1, c2, c3, _⟩ := four hr.hr
        replace c2 : w3.cell? ⟨r, 2, none⟩ = some (.int .i64 3) := c2
        have HR := Lib.hid hr
        have HG2 := Lib.hid hg
        clear hr hg b0 b1 b2 b3
        go_wp2_with fail
        go_ret
        rw [HK.out]
        exact ⟨rfl, HR.out, grown_trans HG.out HG2.out⟩
      · have HK : Hid (nQ S = (x, S')) := Lib.hid (by rw [HN.out, if_neg (by simp [hf]), if_neg (by omega)])
        have hx2 : x ≤ 64 := by omega
        have hx3 : 1 ≤ x := by omega
        clear HN hf h64 h1
        go_enter Try.func64, Try.ntmps64
        go_wp2_with fail
        refine HU.out.mono ?_
        rintro e w2 ⟨rfl, hr, hg⟩
        obtain ⟨b0, b1, b2, b3, g0, g1, g2, g3⟩ := four hr.hr
        rw [RS.e_none HF.out] at b2
        have HR := Lib.hid hr
        have HG := Lib.hid hg
        clear hr hg
        go_wp2_with fail
        go_ret
        rw [HK.out]
        exact ⟨rfl, HR.out, HG.out⟩
  · have HK : Hid (nQ S = (0, S')) := Lib.hid (by rw [HN.out, if_pos hf])
    have HF := Lib.hid hf
    clear HN hf
    go_enter Try.func64, Try.ntmps64
    go_wp2_with fail
    refine HU.out.mono ?_
    rintro e w2 ⟨rfl, hr, hg⟩
    obtain ⟨b0, b1, b2, b3, g0, g1, g2, g3⟩ := four hr.hr
    have hq : (S'.e == 0) = false := by rw [beq_eq_false_iff_ne]; exact hr.e_some HF.out
    have hq' : (S'.e != 0) = true := by simpa using hr.e_some HF.out
    have HR := Lib.hid hr
    have HG := Lib.hid hg
    clear hr hg
    go_wp2_with fail
    go_ret
    rw [HK.out]
    exact ⟨rfl, HR.out, HG.out⟩

theorem endR_none {S : RS} (h : S.ft = none) : endR S = if S.at_ < S.L.length then (4, (S.at_ : Int)) else (0, 0) := by unfold endR; rw [h]
theorem endR_some {S : RS} (h : S.ft ≠ none) : endR S = (S.e, S.a) := by
  unfold endR RS.e RS.a
  cases hs : S.ft with
  | none => exact absurd hs h
  | some p => rfl
set_option maxRecDepth 100000 in
set_option maxHeartbeats 1600000 in
theorem refEnd_any {W : World} {base r : Nat} {S : RS} {ao : Option Addr} {c : Nat} (h : Rq W base r S ao c) :
    Calls Try.prog 66 #[.pointer (some ⟨r, 0, none⟩)] W fun e w' => e = .returned (.agg #[.int .i64 (endR S).1, .int .i64 (endR S).2]) ∧ Below W.heap.size W w' := by
  have hlt := h.lt
  have hne : r ≠ W.heap.size := by omega
  obtain ⟨a0, a1, a2, a3, f0, f1, f2, f3⟩ := four h.hr
  by_cases hf : S.ft = none
  · rw [RS.e_none hf] at a2
    rw [show S.a = 0 from RS.a_none hf] at a3
    have hle := h.le
    have hln := h.len
    by_cases hl : S.at_ < S.L.length
    · have HK : Hid (endR S = (4, (S.at_ : Int))) := Lib.hid (by rw [endR_none hf, if_pos hl])
      have hd : decide ((S.at_ : Int) < (S.L.length : Int)) = true := by simpa using hl
      clear h hf
      go_enter Try.func66, Try.ntmps66
      go_wp2_with fail
      go_quiet (fail)
      go_wp2_with fail
      refine bodyPost_ret (v := .agg #[.int .i64 4, .int .i64 S.at_]) (by simp [results, Try.results66, go_sem]) rfl ?_
      rw [HK.out]
      exact ⟨rfl, ((below_drewN ((Below.refl W.heap.size W).alloc (Nat.le_refl _) _) nq).setCell (p := ⟨W.heap.size, 0, none⟩) (Nat.le_refl _) _).setCell (p := ⟨W.heap.size, 1, none⟩) (Nat.le_refl _) _⟩
    · have HK : Hid (endR S = (0, 0)) := Lib.hid (by rw [endR_none hf, if_neg hl])
      have hd : decide ((S.at_ : Int) < (S.L.length : Int)) = false := by simpa using hl
      clear h hf
      go_enter Try.func66, Try.ntmps66
      go_wp2_with fail
      go_quiet (fail)
      go_wp2_with fail
      refine bodyPost_ret (v := .agg #[.int .i64 0, .int .i64 0]) (by simp [results, Try.results66, go_sem]) rfl ?_
      rw [HK.out]
      exact ⟨rfl, ((below_drewN ((Below.refl W.heap.size W).alloc (Nat.le_refl _) _) nq).setCell (p := ⟨W.heap.size, 0, none⟩) (Nat.le_refl _) _).setCell (p := ⟨W.heap.size, 1, none⟩) (Nat.le_refl _) _⟩
  · have hq : (S.e == 0) = false := by rw [beq_eq_false_iff_ne]; exact h.e_some hf
    have HK : Hid (endR S = (S.e, S.a)) := Lib.hid (endR_some hf)
    clear h hf
    go_enter Try.func66, Try.ntmps66
    go_wp2_with fail
    go_quiet (fail)
    go_wp2_with fail
    refine bodyPost_ret (v := .agg #[.int .i64 S.e, .int .i64 S.a]) (by simp [results, Try.results66, go_sem]) rfl ?_
    rw [HK.out]
    exact ⟨rfl, ((below_drewN ((Below.refl W.heap.size W).alloc (Nat.le_refl _) _) nq).setCell (p := ⟨W.heap.size, 0, none⟩) (Nat.le_refl _) _).setCell (p := ⟨W.heap.size, 1, none⟩) (Nat.le_refl _) _⟩
end Go.Proofs.Ytjiffflhedekfaa
end
section
/- The reference's Read: what it tells is what the program's Read tells; how memory stands in its loops. -/
namespace Go.Proofs.Ytjiffflhedekfaa
open Go.RowKit

theorem uR_ft {S : RS} (h : S.ft ≠ none) : uR S = (0, S) := by unfold uR; rw [if_pos h]
/-- The reference's reader behind N is the program's, but for the place of one that has failed. -/
theorem nQ_nR (S : RS) : nQ S = nR S ∨ ((nQ S).1 = 0 ∧ (nR S).1 = 0 ∧ (nQ S).2.ft = (nR S).2.ft ∧ (nQ S).2.ft ≠ none) := by
  unfold nQ nR
  by_cases hf : S.ft = none
  · have hu : uR S = if (numR (S.L.drop S.at_)).2.2 ≠ 0 then (0, { S with ft := some ((numR (S.L.drop S.at_)).2.2, (S.at_ : Int)) }) else ((numR (S.L.drop S.at_)).1, { S with at_ := S.at_ + (numR (S.L.drop S.at_)).2.1.toNat }) := by
      unfold uR; rw [if_neg (by simp [hf])]
    rw [hu, if_neg (show ¬ S.ft ≠ none by simp [hf])]
    by_cases he : (numR (S.L.drop S.at_)).2.2 ≠ 0
    · rw [if_pos he]
      left
      have h1 : numE (numR (S.L.drop S.at_)) = (numR (S.L.drop S.at_)).2.2 := by unfold numE; rw [if_pos he]
      simp [h1, he]
    · rw [if_neg he]
      have h1 : numE (numR (S.L.drop S.at_)) = if 64 < (numR (S.L.drop S.at_)).1 ∨ (numR (S.L.drop S.at_)).1 < 1 then 3 else 0 := by unfold numE; rw [if_neg he]
      rw [h1]
      by_cases hr : 64 < (numR (S.L.drop S.at_)).1 ∨ (numR (S.L.drop S.at_)).1 < 1
      · right
        simp [hr, hf]
      · left
        simp [hr, hf]
  · rw [uR_ft hf]
    left
    simp [hf]
theorem uN_ft {S : RS} (h : S.ft ≠ none) (k : Nat) : uN k S = (List.replicate k 0, S) := by
  induction k with
  | zero => rfl
  | succ k ih => rw [uN, ih, uR_ft h]; simp [List.replicate_succ']
def readBQ (raw : List Int) : Bk × RS :=
  let S1 := (nQ ⟨raw, 0, none⟩).2
  let a := uN (nQ ⟨raw, 0, none⟩).1.toNat S1
  let p := uN 4 a.2
  (⟨a.1, p.1.getD 0 0, p.1.getD 1 0, p.1.getD 2 0, p.1.getD 3 0⟩, p.2)
theorem endR_ft {S T : RS} (h : S.ft ≠ none) (e : S.ft = T.ft) : endR S = endR T := by
  rw [endR_some h, endR_some (e ▸ h)]
  unfold RS.e RS.a
  rw [e]
theorem readBQ_eq (raw : List Int) : (readBQ raw).1 = (readB raw).1 ∧ endR (readBQ raw).2 = endR (readB raw).2 := by
  rcases nQ_nR ⟨raw, 0, none⟩ with h | ⟨h1, h2, h3, h4⟩
  · unfold readBQ readB; rw [h]; exact ⟨rfl, rfl⟩
  · have h5 : (nR ⟨raw, 0, none⟩).2.ft ≠ none := h3 ▸ h4
    have a : ∀ (S : RS) (n : Int), n = 0 → S.ft ≠ none → (uN n.toNat S) = ([], S) := fun S n hn _ => by subst hn; rfl
    unfold readBQ readB
    dsimp only
    rw [a _ _ h1 h4, a _ _ h2 h5, uN_ft h4, uN_ft h5]
    exact ⟨rfl, endR_ft h4 h3⟩
theorem readR_Q (raw : List Int) : readR raw = if (endR (readBQ raw).2).1 ≠ 0 then (B0, endR (readBQ raw).2) else if (readBQ raw).1.chk ≠ 0 then (B0, 12, 0) else ((readBQ raw).1, 0, 0) := by
  unfold readR; rw [(readBQ_eq raw).1, (readBQ_eq raw).2]
theorem nQ_ok {S : RS} (h : S.Ok) : (nQ S).2.Ok ∧ 0 ≤ (nQ S).1 ∧ (nQ S).1 ≤ 64 := by
  have hu := uR_ok h
  unfold nQ
  split
  · exact ⟨hu.1, by omega, by omega⟩
  · split
    · exact ⟨hu.1, by simp, by simp⟩
    · rename_i h1 h2
      exact ⟨hu.1, by omega, by omega⟩

section
variable {W : World} {base r : Nat} {S : RS} {ao : Option Addr} {c : Nat}
theorem Rq.grown (h : Rq W base r S ao c) {W' : World} {row : Option Nat} (hg : W.grownBy W' row) (ht : ∀ g, row = some g → ∃ cs t m, W.heap[g]? = some (.cells cs t m) ∧ t ≠ 108 ∧ t ≠ 5) : Rq W' base r S ao c := by
  have keep : ∀ (k : Nat) (cs : Array Value) (t : TypeId) (m : Nat × Nat), W.heap[k]? = some (.cells cs t m) → (t = 108 ∨ t = 5) → W'.heap[k]? = some (.cells cs t m) := fun k cs t m hk h' => by
    refine (hg.block k (Array.getElem?_eq_some_iff.1 hk).1 (fun e => ?_)).trans hk
    obtain ⟨cs', t', m', h1, h2⟩ := ht k e.symm
    rw [hk] at h1
    simp only [Option.some.injEq, Obj.cells.injEq] at h1
    obtain ⟨_, rfl, _⟩ := h1
    rcases h' with rfl | rfl
    · exact h2.1 rfl
    · exact h2.2 rfl
  refine ⟨keep _ _ _ _ h.hr (.inl rfl), ?_, h.ne, h.lo, h.bs, h.le, h.len, h.ft⟩
  exact ⟨h.own.1, h.own.2.imp id fun ⟨g, cap', cur, h1, h2, h3, r⟩ => ⟨g, cap', cur, h1, h2, keep _ _ _ _ h3 (.inr rfl), r⟩⟩
end

/-- In the loops of Read: the reader, the bank's variable, the accounts. -/
structure RqSit (w W : World) (bk r : Nat) (S : RS) (ao : Option Addr) (c : Nat) (la : Option Addr) (cap : Nat) (B : Bk) : Prop where
  below : Below w.heap.size w W
  rdr : Rq W w.heap.size r S ao c
  lo : w.heap.size ≤ bk
  hb : W.heap[bk]? = some (.cells #[.slice la B.L.length cap, .int .u64 B.p0, .int .u64 B.p1, .int .u64 B.p2, .int .u64 B.p3] 26 (0, 0))
  own : OwnW W w.heap.size la cap B.L
section
variable {w W : World} {bk r : Nat} {S : RS} {ao : Option Addr} {c : Nat} {la : Option Addr} {cap : Nat} {B : Bk}
theorem RqSit.step (h : RqSit w W bk r S ao c la cap B) {W' : World} (hb : Below W.heap.size W W') : RqSit w W' bk r S ao c la cap B :=
  ⟨h.below.trans (hb.mono h.below.size), h.rdr.step hb, h.lo, (hb.block _ (lt_of_block h.hb)).trans h.hb, h.own.below hb⟩
/-- Behind a call that reads a number. -/
theorem RqSit.read (h : RqSit w W bk r S ao c la cap B) {W' : World} {S' : RS} (hr : Rq W' w.heap.size r S' ao c) (hg : W.grownBy W' (some r)) : RqSit w W' bk r S' ao c la cap B := by
  have hlr := h.rdr.lo
  refine ⟨h.below.grown hg h.below.size (fun k e => by cases e; exact hlr), hr, h.lo, (hg.block _ (lt_of_block h.hb) (fun e => ne_of_types h.hb h.rdr.hr (by decide) (by cases e; rfl))).trans h.hb, h.own.grown hg (fun g e => by cases e; exact ⟨_, _, _, h.rdr.hr, by decide⟩)⟩
theorem RqSit.app {W' : World} (h : RqSit w W bk r S ao c la cap B) {g cap' : Nat} {l : List Int}
    (hown : OwnW W' w.heap.size (some ⟨g, 0, none⟩) cap' l) (hgrow : W.grownBy W' (la.map (·.block))) :
    RqSit w (W'.setCell ⟨bk, 0, none⟩ (.slice (some ⟨g, 0, none⟩) l.length cap')) bk r S ao c (some ⟨g, 0, none⟩) cap' { B with L := l } := by
  have hty : ∀ q, la.map (·.block) = some q → ∃ cs m, W.heap[q]? = some (.cells cs 23 m) := fun q hq => by
    cases hl : la with
    | none => rw [hl] at hq; cases hq
    | some p => rw [hl] at hq; simp at hq; subst hq; exact h.own.typed p hl
  have hlow : ∀ q, la.map (·.block) = some q → w.heap.size ≤ q := fun q hq => by
    cases hl : la with
    | none => rw [hl] at hq; cases hq
    | some p => rw [hl] at hq; simp at hq; subst hq; exact h.own.low p hl
  have hb' : W'.heap[bk]? = some (.cells #[.slice la B.L.length cap, .int .u64 B.p0, .int .u64 B.p1, .int .u64 B.p2, .int .u64 B.p3] 26 (0, 0)) :=
    (hgrow.block _ (lt_of_block h.hb) (fun e => by obtain ⟨cs, m, hm⟩ := hty _ e.symm; exact ne_of_types h.hb hm (by decide) rfl)).trans h.hb
  have hr' : Rq W' w.heap.size r S ao c := h.rdr.grown hgrow (fun q hq => by obtain ⟨cs, m, hm⟩ := hty q hq; exact ⟨cs, 23, m, hm, by decide, by decide⟩)
  have hset : W'.grownBy (W'.setCell ⟨bk, 0, none⟩ (.slice (some ⟨g, 0, none⟩) l.length cap')) (some bk) := grown_set _
  have hlo := h.lo
  have hsz := hgrow.size
  refine ⟨(h.below.grown hgrow h.below.size hlow).grown hset (by have := h.below.size; omega) (fun k e => by cases e; exact hlo), hr'.grown hset (fun q hq => by cases hq; exact ⟨_, _, _, hb', by decide, by decide⟩), hlo, ?_, hown.grown hset (fun q hq => by cases hq; exact ⟨_, _, _, hb', by decide⟩)⟩
  simp [World.setCell, Array.getElem?_modify, hb']
theorem RqSit.far {W' : World} (h : RqSit w W bk r S ao c la cap B) {o : Obj} {n cp : Nat} (hgrow : (W.alloc o).grownBy W' (Value.slice la n cp).ownBlock) :
    W'.cell? ⟨bk, 0, none⟩ = some (.slice la B.L.length cap) ∧ W'.frozen? ⟨bk, 0, none⟩ = false ∧ W.grownBy W' (la.map (·.block)) := by
  rw [own_block'] at hgrow
  have hg : W.grownBy W' (la.map (·.block)) := grown_trans (World.grownBy_alloc W o _) hgrow
  have hty : ∀ q, la.map (·.block) = some q → ∃ cs m, W.heap[q]? = some (.cells cs 23 m) := fun q hq => by
    cases hl : la with
    | none => rw [hl] at hq; cases hq
    | some p => rw [hl] at hq; simp at hq; subst hq; exact h.own.typed p hl
  have hb' : W'.heap[bk]? = some (.cells #[.slice la B.L.length cap, .int .u64 B.p0, .int .u64 B.p1, .int .u64 B.p2, .int .u64 B.p3] 26 (0, 0)) :=
    (hg.block _ (lt_of_block h.hb) (fun e => by obtain ⟨cs, m, hm⟩ := hty _ e.symm; exact ne_of_types h.hb hm (by decide) rfl)).trans h.hb
  obtain ⟨x0, _, _, _, _, f0, _⟩ := five hb'
  exact ⟨x0, f0, hg⟩
theorem RqSit.pool (h : RqSit w W bk r S ao c la cap B) (k : Nat) (hk : k < 4) (x : Int) :
    RqSit w (W.setCell ⟨bk, 1 + k, none⟩ (.int .u64 x)) bk r S ao c la cap (B.setPool k x) := by
  have hset : W.grownBy (W.setCell ⟨bk, 1 + k, none⟩ (.int .u64 x)) (some bk) := grown_set _
  have hlo := h.lo
  have hbk := h.hb
  refine ⟨h.below.grown hset h.below.size (fun k e => by cases e; exact hlo), h.rdr.grown hset (fun q hq => by cases hq; exact ⟨_, _, _, hbk, by decide, by decide⟩), hlo, ?_, by rw [setPool_L]; exact h.own.grown hset (fun q hq => by cases hq; exact ⟨_, _, _, hbk, by decide⟩)⟩
  rw [setPool_L]
  match k, hk with
  | 0, _ => simp [World.setCell, Array.getElem?_modify, hbk, Bk.setPool]
  | 1, _ => simp [World.setCell, Array.getElem?_modify, hbk, Bk.setPool]
  | 2, _ => simp [World.setCell, Array.getElem?_modify, hbk, Bk.setPool]
  | 3, _ => simp [World.setCell, Array.getElem?_modify, hbk, Bk.setPool]
end
def Rq2 (w : World) (bk r : Nat) (S : RS) (ao : Option Addr) (c : Nat) (la : Option Addr) (cap : Nat) (L : List Int) (i : Value) (W : World) : Prop :=
  ∃ (k : Nat), k ≤ 4 ∧ i = .int .i64 k ∧ RqSit w W bk r (uN k S).2 ao c la cap (bof L (uN k S).1)
def Rq1 (w : World) (bk r : Nat) (S : RS) (ao : Option Addr) (c n : Nat) (i : Value) (W : World) : Prop :=
  ∃ (k : Nat) (la : Option Addr) (cap : Nat), k ≤ n ∧ i = .int .i64 k ∧ RqSit w W bk r (uN k S).2 ao c la cap ⟨(uN k S).1, 0, 0, 0, 0⟩
end Go.Proofs.Ytjiffflhedekfaa
end
section
/- The reference's Read: the walk. -/
namespace Go.Proofs.Ytjiffflhedekfaa
open Go.RowKit

theorem endR_zero {S : RS} (hf : ∀ e a, S.ft = some (e, a) → e ≠ 0) (h : (endR S).1 = 0) : (endR S).2 = 0 := by
  unfold endR at h ⊢
  cases hs : S.ft with
  | some p => rw [hs] at h; exact absurd h (hf p.1 p.2 hs)
  | none =>
    rw [hs] at h
    simp only at h ⊢
    split
    · rename_i hl; rw [if_pos hl] at h; simp at h
    · rfl

theorem OwnW.drawn {w : World} {base : Nat} {ao : Option Addr} {cap : Nat} {l : List Int} (h : OwnW w base ao cap l) : OwnW w.drew base ao cap l := h.below ((Below.refl _ _).drew)

set_option maxRecDepth 100000 in
set_option maxHeartbeats 4000000 in
theorem refRead_any (ao : Option Addr) (raw : List Int) (c : Nat) (w : World) (hl : Rb w ao raw) (bl : Bs raw) (nl : raw.length ≤ 140737488355328) :
    Calls Try.prog 30 #[.slice ao raw.length c] w fun e w' => ∃ la cap, e = .returned (.tuple #[.agg #[.slice la (readR raw).1.L.length cap, .int .u64 (readR raw).1.p0, .int .u64 (readR raw).1.p1, .int .u64 (readR raw).1.p2, .int .u64 (readR raw).1.p3], .agg #[.int .i64 (readR raw).2.1, .int .i64 (readR raw).2.2]]) ∧
      OwnW w' w.heap.size la cap (readR raw).1.L ∧ Below w.heap.size w w' := by
  have C1 := Lib.hid (fun W (h : Below w.heap.size w W) => refNewReader_any ao raw c W (hl.below h) bl nl)
  have h0 : (⟨raw, 0, none⟩ : RS).Ok := ⟨bl, Nat.zero_le _⟩
  have hn := nQ_ok h0
  have HN := Lib.hid hn
  have HQ := Lib.hid (readR_Q raw)
  clear hl bl h0
  go_enter Try.func30, Try.ntmps30
  go_wp2_with fail
  refine (C1.out _ (((Below.refl _ _).alloc (Nat.le_refl _) _).alloc (by simp) _)).mono ?_
  obtain ⟨wX, hX⟩ : ∃ wX, (w.alloc (.cells #[.slice none 0 0, .int .u64 0, .int .u64 0, .int .u64 0, .int .u64 0] 26)).alloc (.cells #[.int .i64 0, .int .i64 0] 49) = wX := ⟨_, rfl⟩
  rw [hX]
  rintro e w1 ⟨r, ao', c', rfl, hrd, hb⟩
  have hsX : wX.heap.size = w.heap.size + 2 := by rw [← hX]; simp
  have HX := Lib.hid hX
  have HS := Lib.hid hsX
  have hs1 : w.heap.size + 2 ≤ w1.heap.size := by have := hb.size; omega
  have hsit := Lib.hid ((⟨hb.alloc hb.size _, hrd.step ((Below.refl _ _).alloc (Nat.le_refl _) _), hb.size, heap_at w1 _ rfl, own_none _ _⟩ : RqSit wX (w1.alloc (.cells #[.slice none 0 0, .int .u64 0, .int .u64 0, .int .u64 0, .int .u64 0] 26)) w1.heap.size r ⟨raw, 0, none⟩ ao' c' none 0 ⟨[], 0, 0, 0, 0⟩))
  clear hb hrd hX hsX
  go_wp2_with fail
  refine (refN_any hsit.out.rdr).mono ?_
  rintro e w2 ⟨rfl, hr2, hg2⟩
  have hs2 := Lib.hid (hsit.out.read hr2 hg2)
  have HR : Hid (readBQ raw = (⟨(uN (nQ ⟨raw, 0, none⟩).1.toNat (nQ ⟨raw, 0, none⟩).2).1, (uN 4 (uN (nQ ⟨raw, 0, none⟩).1.toNat (nQ ⟨raw, 0, none⟩).2).2).1.getD 0 0, (uN 4 (uN (nQ ⟨raw, 0, none⟩).1.toNat (nQ ⟨raw, 0, none⟩).2).2).1.getD 1 0,
    (uN 4 (uN (nQ ⟨raw, 0, none⟩).1.toNat (nQ ⟨raw, 0, none⟩).2).2).1.getD 2 0, (uN 4 (uN (nQ ⟨raw, 0, none⟩).1.toNat (nQ ⟨raw, 0, none⟩).2).2).1.getD 3 0⟩, (uN 4 (uN (nQ ⟨raw, 0, none⟩).1.toNat (nQ ⟨raw, 0, none⟩).2).2).2)) := Lib.hid rfl
  clear hsit hr2 hg2 hn
  generalize nQ ⟨raw, 0, none⟩ = N1 at *
  obtain ⟨z, S1⟩ := N1
  dsimp only at *
  obtain ⟨n, hz⟩ : ∃ n : Nat, z = n := ⟨z.toNat, by have := HN.out.2.1; omega⟩
  subst hz
  have hn64 : n ≤ 64 := by have := HN.out.2.2; omega
  have HOk := Lib.hid HN.out.1
  simp only [Int.toNat_natCast] at HR
  clear HN
  obtain ⟨bk, hbk⟩ : ∃ bk, bk = w1.heap.size := ⟨_, rfl⟩
  rw [← hbk] at hs2 ⊢
  clear hbk hs1 C1
  go_wp2_with fail
  go_loopw [7] (Rq1 wX bk r S1 ao' c' n) (fun i _ => n - (intOf i).toNat)
  case atStart => exact ⟨0, none, 0, Nat.zero_le _, rfl, hs2.out⟩
  case round =>
    clear hs2
    obtain ⟨k, la, cap, hk, rfl, hsit⟩ := hrel
    have hlen := (uN_ok HOk.out k).2.2.1
    have hok := Lib.hid (uN_ok HOk.out k)
    by_cases hlt : k < n
    · have hnx : Hid (uN (k + 1) S1 = ((uN k S1).1 ++ [(uR (uN k S1).2).1], (uR (uN k S1).2).2)) := Lib.hid rfl
      generalize uN k S1 = A at *
      obtain ⟨l, S⟩ := A
      dsimp only at *
      have hll : l.length ≤ 64 := by omega
      have HLn := Lib.hid hlen
      clear hlen
      have HU := Lib.hid (fun W' (h : Below wr.heap.size wr W') => (refU_any (hsit.step h).rdr).mono (fun _ w' hp => And.intro hp.1 (show RqSit wX w' bk r (uR S).2 ao' c' la cap ⟨l, 0, 0, 0, 0⟩ from (hsit.step h).read hp.2.1 hp.2.2)))
      obtain ⟨x0, _, _, _, _, f0, _⟩ := five hsit.hb
      generalize uR S = U at *
      obtain ⟨x, S'⟩ := U
      dsimp only at *
      obtain ⟨i0, hi, hz0, hz1, hz2⟩ := info_parts Try.info23
      clear hsit
      go_wp2_with fail
      go_region_law
        (first | (go_simp; go_at_call 65; refine (HU.out _ (by exact (Below.refl _ _).drew)).mono ?_; rintro e' w3 ⟨rfl, hs3⟩; obtain ⟨x0, _, _, _, _, f0, _⟩ := five hs3.hb; have x0a := (five ((heap_old w3 (.cells #[.int .u64 x] 23) (lt_of_block hs3.hb)).trans hs3.hb)).1; have HS3 := Lib.hid hs3; clear hs3) | (refine step_append_lies _ (by rfl) _ _ _ (by rfl) wX.heap.size 23 i0 (.int .u64 0) 1 8 Try.underlying22 hi hz0 hz1 hz2 rfl (by decide) (.slice la l.length cap) l.length (l.map (Value.int .u64)) (by rfl) (HS3.out.own.alloc _) ⟨w3.heap.size, 0, none⟩ 1 1 [.int .u64 x] (by rfl) (by rfl) (cell_one_new _ _ _) (by simp [Value.oneCell']) (by omega) (by simp only [maxLen]; omega) (by omega) (by have := HS3.out.below.size; simp; omega) (w3.heap.size + 1) (by simp) ?_; intro g cap' w4 hown4 hgrow4 hat4 hlt4; obtain ⟨y0, g0, hg4⟩ := HS3.out.far hgrow4; have HG4 := Lib.hid hg4; have HW4 := Lib.hid hown4; clear hgrow4 hat4 hlt4 hg4 hown4))
      all_goals
        go_wp2_with fail
        go_roundw
        case rel => exact ⟨k + 1, some ⟨g, 0, none⟩, cap', by omega, by go_num, by rw [hnx.out]; have := HS3.out.app (own_snoc HW4.out) HG4.out; simpa using this⟩
        case measure => simp [intOf]; omega
    · obtain rfl : k = n := by omega
      have HA : Hid (readBQ raw = (bof (uN k S1).1 (uN 4 (uN k S1).2).1, (uN 4 (uN k S1).2).2)) := HR
      have hWs := Lib.hid hok.out.2.1
      have hlen' : (uN k S1).1.length ≤ 64 := by omega
      clear hlen
      have hOk2 := Lib.hid hok.out.1
      generalize uN k S1 = A at *
      obtain ⟨L, S2⟩ := A
      dsimp only at *
      clear hok HOk HR
      have HS2 := Lib.hid (show RqSit wX wr bk r S2 ao' c' la cap (bof L []) from hsit)
      clear hsit hlt
      go_wp2_with fail
      go_loopw [8] (Rq2 wX bk r S2 ao' c' la cap L) (fun i _ => 4 - (intOf i).toNat)
      case atStart => exact ⟨0, by omega, rfl, HS2.out⟩
      case round =>
        clear HS2
        obtain ⟨j, hj, rfl, hsit⟩ := hrel
        have hlj := (uN_ok hOk2.out j).2.2.1
        by_cases hlt : j < 4
        · have hnx : Hid (uN (j + 1) S2 = ((uN j S2).1 ++ [(uR (uN j S2).2).1], (uR (uN j S2).2).2)) := Lib.hid rfl
          generalize uN j S2 = A at *
          obtain ⟨p, S⟩ := A
          dsimp only at *
          have HLj := Lib.hid hlj
          clear hlj
          have HU := Lib.hid ((refU_any hsit.rdr).mono (fun _ w' hp => And.intro hp.1 (show RqSit wX w' bk r (uR S).2 ao' c' la cap (bof L p) from hsit.read hp.2.1 hp.2.2)))
          generalize uR S = U at *
          obtain ⟨x, S'⟩ := U
          dsimp only at *
          clear hsit
          go_wp2_with fail
          refine HU.out.mono ?_
          rintro e w3 ⟨rfl, hs3⟩
          obtain ⟨q1, q2⟩ := five_at hs3.hb hlt
          have HS3 := Lib.hid hs3
          clear hs3 HU
          go_wp2_with fail
          go_roundw
          case rel => exact ⟨j + 1, by omega, by go_num, by rw [hnx.out]; simp only; rw [bof_snoc L p x (by rw [HLj.out]; exact hlt), HLj.out]; exact HS3.out.pool j hlt x⟩
          case measure => simp [intOf]; omega
        · obtain rfl : j = 4 := by omega
          have hWp := Lib.hid (uN_ok hOk2.out 4)
          have hok2 := hlen'
          generalize uN 4 S2 = A at *
          obtain ⟨p, S3⟩ := A
          dsimp only at *
          have HB : Hid ((bof L p).Wf) := Lib.hid (by
            have hp := hWp.out.2.1
            have hl := hWp.out.2.2.1
            exact ⟨hWs.out, hp.at (by omega), hp.at (by omega), hp.at (by omega), hp.at (by omega)⟩)
          have HE := Lib.hid (refEnd_any hsit.rdr)
          have HE0 := Lib.hid (endR_zero hsit.rdr.ft)
          have hLl := hsit.own.low
          have hR : readR raw = if (endR S3).1 ≠ 0 then (B0, endR S3) else if (bof L p).chk ≠ 0 then (B0, 12, 0) else (bof L p, 0, 0) := by rw [HQ.out, HA.out]
          have hLn : Hid ((bof L p).L.length ≤ 64) := Lib.hid (by have := hok2; exact this)
          generalize bof L p = B at *
          generalize endR S3 = E at *
          obtain ⟨er, ea⟩ := E
          dsimp only at *
          have hXX := HX.out
          have k2 : wr.heap[w.heap.size]? = some (.cells #[.slice none 0 0, .int .u64 0, .int .u64 0, .int .u64 0, .int .u64 0] 26 (0, 0)) :=
            (hsit.below.block _ (by rw [HS.out]; omega)).trans (by rw [← hXX]; exact (heap_old _ _ (by simp)).trans (heap_at w _ rfl))
          have k3 : wr.heap[w.heap.size + 1]? = some (.cells #[.int .i64 0, .int .i64 0] 49 (0, 0)) :=
            (hsit.below.block _ (by rw [HS.out]; omega)).trans (by rw [← hXX]; exact heap_at (w.alloc _) _ (by simp))
          have kX : Hid (Below w.heap.size w wX) := Lib.hid (by rw [← hXX]; exact ((Below.refl _ _).alloc (Nat.le_refl _) _).alloc (by simp) _)
          have hbk := hsit.lo
          have hsX := HS.out
          have hlw := hsit.below.size
          have HT := Lib.hid hsit
          have HR := Lib.hid hR
          clear hXX HX hsit hR hOk2 HA hWp HQ
          obtain ⟨b2, hb2⟩ : ∃ b2, w.heap.size = b2 := ⟨_, rfl⟩
          have HB2 := Lib.hid hb2
          rw [hb2] at k2 k3 hsX ⊢
          clear hb2
          go_wp2_with fail
          refine HE.out.mono ?_
          rintro e w3 ⟨rfl, hb⟩
          have hT3 := HT.out.step hb
          have k2' := (hb.block b2 (lt_of_block k2)).trans k2
          have k3' := (hb.block (b2 + 1) (lt_of_block k3)).trans k3
          have hz3 := hb.size
          have l2 := lt_of_block k2'
          have l3 := lt_of_block k3'
          have l4 := lt_of_block hT3.hb
          have HT3 := Lib.hid hT3
          have K2 := Lib.hid k2'
          have K3 := Lib.hid k3'
          clear hT3 hb k2 k3 HT HE k2' k3'
          have HW3 : Hid (Below b2 w w3) := Lib.hid (by rw [← HB2.out]; exact kX.out.trans (HT3.out.below.mono (by rw [HS.out]; omega)))
          obtain ⟨x0, x1, x2, x3, x4, _⟩ := five HT3.out.hb
          have hneb : bk ≠ b2 := by omega
          have hneb' : bk ≠ b2 + 1 := by omega
          have hnt : bk ≠ w3.heap.size := by omega
          by_cases her : er = 0
          · subst her
            have hea : ea = 0 := HE0.out rfl
            subst hea
            clear HE0
            have C2 := Lib.hid (fun W' (h : Below w3.heap.size w3 W') => refCheck_any la B cap W' (HT3.out.own.rd.below h) HB.out (by have := hLn.out; omega))
            go_wp2_with fail
            refine (C2.out _ (by exact (Below.refl _ _).alloc (Nat.le_refl _) _)).mono ?_
            rintro e w4 ⟨rfl, hb⟩
            have hb4 : Below w3.heap.size w3 w4 := ((Below.refl _ _).alloc (Nat.le_refl _) _).trans (hb.mono (by simp))
            have hT4 := HT3.out.step hb4
            obtain ⟨c0, c1, c2, c3, c4, d0, d1, d2, d3, d4⟩ := five ((hb4.block b2 l2).trans K2.out)
            obtain ⟨e0, e1, g0, g1⟩ := two ((hb4.block (b2 + 1) l3).trans K3.out)
            obtain ⟨t0, t1, u0, u1⟩ := two ((hb.block w3.heap.size (by simp)).trans (heap_at w3 (.cells #[.int .i64 0, .int .i64 0] 49) rfl))
            clear x0 x1 x2 x3 x4
            obtain ⟨x0, x1, x2, x3, x4, _⟩ := five hT4.hb
            have HT4 := Lib.hid hT4
            have HW4 : Hid (Below b2 w w4) := Lib.hid (HW3.out.trans (hb4.mono (by omega)))
            have hz4 : w3.heap.size < w4.heap.size := by have := hb.size; simp at this; omega
            clear hb hb4 hT4 C2
            by_cases hc : B.chk = 0
            · have hq2 : (B.chk == 0) = true := by rw [hc]; rfl
              have hq2' : (B.chk != 0) = false := by rw [hc]; rfl
              have HV : Hid (readR raw = (B, 0, 0)) := Lib.hid (by rw [HR.out, if_neg (by simp), if_neg (by simp [hc])])
              generalize B.chk = ch at *
              clear hc
              go_wp2_with fail
              go_region
              all_goals
                go_wp2_with fail
                refine bodyPost_ret (v := .tuple #[.agg #[.slice la B.L.length cap, .int .u64 B.p0, .int .u64 B.p1, .int .u64 B.p2, .int .u64 B.p3], .agg #[.int .i64 0, .int .i64 0]]) (by simp [results, Try.results30, go_sem, c0, c1, c2, c3, c4, e0, e1]) rfl ?_
                rw [HV.out, HB2.out]
                have hnb : ∀ p, la = some p → p.block ≠ b2 ∧ p.block ≠ b2 + 1 := fun p hp => by have := hLl p hp; omega
                have hO : OwnW w4 b2 la cap B.L := HT4.out.own.mono (by omega)
                exact ⟨la, cap, rfl, (((hO.set5 (fun p hp => (hnb p hp).1) _ _ _ _ _).setCell (a := ⟨b2 + 1, 0, none⟩) (fun p hp => (hnb p hp).2) _).setCell (a := ⟨b2 + 1, 1, none⟩) (fun p hp => (hnb p hp).2) _).drawn,
                  (((below_set5 HW4.out (Nat.le_refl _) _ _ _ _ _).setCell (p := ⟨b2 + 1, 0, none⟩) (by simp) _).setCell (p := ⟨b2 + 1, 1, none⟩) (by simp) _).drew⟩
            · have hq2 : (B.chk == 0) = false := by rw [beq_eq_false_iff_ne]; exact hc
              have hq2' : (B.chk != 0) = true := by simpa using hc
              have HV : Hid (readR raw = (B0, 12, 0)) := Lib.hid (by rw [HR.out, if_neg (by simp), if_pos hc])
              generalize B.chk = ch at *
              clear hc
              go_wp2_with fail
              go_region
              all_goals
                go_wp2_with fail
                refine bodyPost_ret (v := .tuple #[.agg #[.slice none 0 0, .int .u64 0, .int .u64 0, .int .u64 0, .int .u64 0], .agg #[.int .i64 12, .int .i64 0]]) (by simp [results, Try.results30, go_sem, c0, c1, c2, c3, c4, e0, e1]) rfl ?_
                rw [HV.out, HB2.out]
                have hlb : b2 ≤ w3.heap.size := by omega
                have hB5 : Below b2 w (w4.setCell ⟨w3.heap.size, 0, none⟩ (.int .i64 12)) := HW4.out.setCell (p := ⟨w3.heap.size, 0, none⟩) hlb _
                generalize w4.setCell ⟨w3.heap.size, 0, none⟩ (.int .i64 12) = w5 at *
                exact ⟨none, 0, rfl, own_none _ _, (((below_set5 hB5 (Nat.le_refl _) _ _ _ _ _).setCell (p := ⟨b2 + 1, 0, none⟩) (by simp) _).setCell (p := ⟨b2 + 1, 1, none⟩) (by simp) _).drew⟩
          · have hq : (er == 0) = false := by rw [beq_eq_false_iff_ne]; exact her
            have hq' : (er != 0) = true := by simpa using her
            have HV : Hid (readR raw = (B0, er, ea)) := Lib.hid (by rw [HR.out, if_pos her])
            obtain ⟨c0, c1, c2, c3, c4, d0, d1, d2, d3, d4⟩ := five K2.out
            obtain ⟨e0, e1, g0, g1⟩ := two K3.out
            clear her HE0
            go_wp2_with fail
            go_region
            all_goals
              go_wp2_with fail
              refine bodyPost_ret (v := .tuple #[.agg #[.slice none 0 0, .int .u64 0, .int .u64 0, .int .u64 0, .int .u64 0], .agg #[.int .i64 er, .int .i64 ea]]) (by simp [results, Try.results30, go_sem, c0, c1, c2, c3, c4, e0, e1, l2, l3, World.cell?_alloc_past]) rfl ?_
              rw [HV.out, HB2.out]
              exact ⟨none, 0, rfl, own_none _ _, ((((below_set5 HW3.out (Nat.le_refl _) _ _ _ _ _).setCell (p := ⟨b2 + 1, 0, none⟩) (by simp) _).setCell (p := ⟨b2 + 1, 1, none⟩) (by simp) _).alloc (by simp [World.setCell]; omega) _).drew⟩
end Go.Proofs.Ytjiffflhedekfaa
end
