/- Rdr, Rdu, Rdn, Rde, Rdb, Rdc: texts of this claim, merged. -/
import Derived.Test.YtjiffflhedekfaaNum
import Derived.Test.YtjiffflhedekfaaNew
import Derived.Deep.RegionHeld3
import Derived.Test.YtjiffflhedekfaaPl
import Derived.Deep.RegionLaw
import Derived.Deep.AppendLies
import Derived.Maps.AppendAt
section
/- codec.Reader: how it lies in memory; none, Fail. -/
namespace Go.Proofs.Ytjiffflhedekfaa
open Go.RowKit

theorem numF_ok (l : List Int) : ∀ (i : Nat) (n : Int), Bs l → i ≤ 9 → 0 ≤ n → n < 128 ^ i → (numF i n l).2.2 = 0 →
    (i : Int) < (numF i n l).2.1 ∧ (numF i n l).2.1 ≤ i + l.length ∧ 0 ≤ (numF i n l).1 ∧ (numF i n l).1 < 18446744073709551616 := by
  induction l with
  | nil => intro i n _ _ _ _ h; simp [numF] at h
  | cons x l ih =>
    intro i n hb hi hn0 hn1 h
    have hx := hb x (by simp)
    rw [numF] at h ⊢
    by_cases c1 : i = 9 ∧ 1 < x ∨ 0 < i ∧ x = 0
    · rw [if_pos c1] at h; simp at h
    rw [if_neg c1] at h ⊢
    have hst := @acc_step n x i hn0 hn1 hx.1 hx.2 hi (fun h9 => by omega)
    have hp := pow_le9 hi
    have hpos : (0 : Int) < 128 ^ i := Int.pow_pos (by omega)
    have hlt : n + x % 128 * 128 ^ i < 18446744073709551616 := by
      by_cases h9 : i = 9
      · have h1 : x % 128 * 128 ^ i ≤ 1 * 128 ^ i := Int.mul_le_mul_of_nonneg_right (by omega) (by omega)
        omega
      · have h1 := hst.2.2 (by omega)
        have h2 := pow_le9 (show i + 1 ≤ 9 by omega)
        omega
    by_cases c2 : x < 128
    · rw [if_pos c2] at h ⊢
      simp only [List.length_cons]
      exact ⟨by omega, by omega, hst.2.1, hlt⟩
    · rw [if_neg c2] at h ⊢
      have := ih (i + 1) _ (fun y hy => hb y (by simp [hy])) (by omega) hst.2.1 (hst.2.2 (by omega)) h
      simp only [List.length_cons]
      refine ⟨by omega, by omega, this.2.2⟩
theorem numR_ok {l : List Int} (hb : Bs l) (h : (numR l).2.2 = 0) : 0 < (numR l).2.1 ∧ (numR l).2.1 ≤ l.length ∧ 0 ≤ (numR l).1 ∧ (numR l).1 < 18446744073709551616 := by
  have := numF_ok l 0 0 hb (by omega) (by omega) (by simp) h
  exact ⟨by have := this.1; simp only [numR]; omega, by have := this.2.1; simp only [numR]; omega, this.2.2⟩

/-- A reader: its bytes, its place, its fault. -/
structure RS where
  L : List Int
  at_ : Nat
  ft : Option (Int × Int)
/-- It lies there. -/
structure Rdr (W : World) (base r : Nat) (S : RS) (ao : Option Addr) (c : Nat) (fp : Option Addr) : Prop where
  hr : W.heap[r]? = some (.cells #[.slice ao S.L.length c, .int .i64 S.at_, .bool true, .pointer fp] 101 (0, 0))
  own : OwnY W base ao c S.L
  ne : ∀ p, ao = some p → p.block ≠ r
  lo : base ≤ r
  fa : (S.ft = none ∧ fp = none) ∨ ∃ e a f, S.ft = some (e, a) ∧ fp = some ⟨f, 0, none⟩ ∧ W.heap[f]? = some (.cells #[.int .i64 e, .int .i64 a] 49 (0, 0)) ∧ base ≤ f ∧ f ≠ r ∧ e ≠ 0
  bs : Bs S.L
  le : S.at_ ≤ S.L.length
  len : S.L.length ≤ 140737488355328
theorem four {w : World} {b : Nat} {v0 v1 v2 v3 : Value} {t : TypeId} (h : w.heap[b]? = some (.cells #[v0, v1, v2, v3] t (0, 0))) :
    w.cell? ⟨b, 0, none⟩ = some v0 ∧ w.cell? ⟨b, 1, none⟩ = some v1 ∧ w.cell? ⟨b, 2, none⟩ = some v2 ∧ w.cell? ⟨b, 3, none⟩ = some v3 ∧
    w.frozen? ⟨b, 0, none⟩ = false ∧ w.frozen? ⟨b, 1, none⟩ = false ∧ w.frozen? ⟨b, 2, none⟩ = false ∧ w.frozen? ⟨b, 3, none⟩ = false := by
  simp [World.cell?, World.frozen?, h]
theorem two {w : World} {b : Nat} {v0 v1 : Value} {t : TypeId} (h : w.heap[b]? = some (.cells #[v0, v1] t (0, 0))) :
    w.cell? ⟨b, 0, none⟩ = some v0 ∧ w.cell? ⟨b, 1, none⟩ = some v1 ∧ w.frozen? ⟨b, 0, none⟩ = false ∧ w.frozen? ⟨b, 1, none⟩ = false := by
  simp [World.cell?, World.frozen?, h]
section
variable {W : World} {base r : Nat} {S : RS} {ao : Option Addr} {c : Nat} {fp : Option Addr}
theorem Rdr.lt (h : Rdr W base r S ao c fp) : r < W.heap.size := (Array.getElem?_eq_some_iff.1 h.hr).1
theorem Rdr.step (h : Rdr W base r S ao c fp) {W' : World} (hb : Below W.heap.size W W') : Rdr W' base r S ao c fp :=
  ⟨(hb.block _ h.lt).trans h.hr, h.own.below hb, h.ne, h.lo, h.fa.imp id fun ⟨e, a, f, h1, h2, h3, h4⟩ => ⟨e, a, f, h1, h2, (hb.block f (Array.getElem?_eq_some_iff.1 h3).1).trans h3, h4⟩, h.bs, h.le, h.len⟩
end

set_option maxHeartbeats 400000 in
theorem rnone_any {W : World} {base r : Nat} {S : RS} {ao : Option Addr} {c : Nat} {fp : Option Addr} (h : Rdr W base r S ao c fp) :
    Calls Try.prog 83 #[.pointer (some ⟨r, 0, none⟩)] W fun e w' => e = .returned (.bool false) ∧ W = w' := by
  obtain ⟨a0, a1, a2, a3, _⟩ := four h.hr
  clear h
  go_enter Try.func83, Try.ntmps83
  go_wp2
  go_ret
  exact ⟨rfl, rfl⟩

theorem heap4_set1 {w : World} {b : Nat} {v0 v1 v2 v3 : Value} {t : TypeId} (h : w.heap[b]? = some (.cells #[v0, v1, v2, v3] t (0, 0))) (x : Value) :
    (w.setCell ⟨b, 1, none⟩ x).heap[b]? = some (.cells #[v0, x, v2, v3] t (0, 0)) := by
  simp [World.setCell, Array.getElem?_modify, h]
theorem heap4_set3 {w : World} {b : Nat} {v0 v1 v2 v3 : Value} {t : TypeId} (h : w.heap[b]? = some (.cells #[v0, v1, v2, v3] t (0, 0))) (x : Value) :
    (w.setCell ⟨b, 3, none⟩ x).heap[b]? = some (.cells #[v0, v1, v2, x] t (0, 0)) := by
  simp [World.setCell, Array.getElem?_modify, h]
theorem OwnY.setCell {w : World} {base : Nat} {ao : Option Addr} {cap : Nat} {l : List Int} (h : OwnY w base ao cap l) {a : Addr} (ha : ∀ p, ao = some p → p.block ≠ a.block) (u : Value) : OwnY (w.setCell a u) base ao cap l :=
  ownsRow_setCell_other h (by cases ao with
    | none => simp [Value.ownBlock]
    | some p => have := ha p rfl; simpa [Value.ownBlock] using this) u
/-- A call that writes the reader alone. -/
theorem grown_set {W : World} {r k : Nat} (v : Value) : W.grownBy (W.setCell ⟨r, k, none⟩ v) (some r) :=
  ⟨rfl, rfl, rfl, by simp [World.setCell], fun j _ hj => Below.heap_setCell _ _ _ j (fun e => hj (by rw [e]))⟩
theorem grown_trans {a b c : World} {g : Option Nat} (h : a.grownBy b g) (k : b.grownBy c g) : a.grownBy c g :=
  ⟨k.os.trans h.os, k.tape.trans h.tape, k.output.trans h.output, Nat.le_trans h.size k.size, fun i hi hne => (k.block i (Nat.lt_of_lt_of_le hi h.size) hne).trans (h.block i hi hne)⟩
theorem grown_below {a b : World} (g : Option Nat) (h : Below a.heap.size a b) : a.grownBy b g := ⟨h.os, h.tape, h.output, h.size, fun k hk _ => h.block k hk⟩

set_option maxHeartbeats 400000 in
theorem rfail_any {W : World} {base r : Nat} {S : RS} {ao : Option Addr} {c : Nat} {fp : Option Addr} (h : Rdr W base r S ao c fp) (hf : S.ft = none) (e a : Int) (he : e ≠ 0) :
    Calls Try.prog 92 #[.pointer (some ⟨r, 0, none⟩), .int .i64 e, .int .i64 a] W fun en w' => en = .returned (.tuple #[]) ∧ (∃ fp', Rdr w' base r { S with ft := some (e, a) } ao c fp') ∧ W.grownBy w' (some r) := by
  have hfp : fp = none := by rcases h.fa with ⟨_, h2⟩ | ⟨_, _, _, h1, _⟩; exact h2; rw [hf] at h1; cases h1
  subst hfp
  have HN := Lib.hid (rnone_any h)
  have HH := Lib.hid h
  obtain ⟨a0, a1, a2, a3, f0, f1, f2, f3⟩ := four h.hr
  have hlt := h.lt
  have hq : (e == 0) = false := by rw [beq_eq_false_iff_ne]; exact he
  have hq' : (e != 0) = true := by simpa using he
  have HE := Lib.hid he
  clear h he hf
  go_enter Try.func92, Try.ntmps92
  go_wp2_with fail
  refine HN.out.mono ?_
  rintro en w' ⟨rfl, rfl⟩
  go_wp2_with fail
  go_end0
  have hsz : (W.setCell ⟨r, 3, none⟩ (.pointer (some ⟨W.heap.size, 0, none⟩))).heap.size = W.heap.size := by simp [World.setCell]
  have hlo := HH.out.lo
  refine ⟨rfl, ⟨some ⟨W.heap.size, 0, none⟩, (heap_old _ _ (by omega)).trans (heap4_set3 HH.out.hr _), (HH.out.own.setCell (a := ⟨r, 3, none⟩) HH.out.ne _).alloc _, HH.out.ne, hlo, .inr ⟨e, a, W.heap.size, rfl, rfl, heap_at _ _ hsz.symm, by omega, by omega, HE.out⟩, HH.out.bs, HH.out.le, HH.out.len⟩, ?_⟩
  exact grown_trans (grown_set _) (grown_below _ ((Below.refl _ _).alloc (Nat.le_refl _) _))
end Go.Proofs.Ytjiffflhedekfaa
end
section
/- codec.Reader: U. -/
namespace Go.Proofs.Ytjiffflhedekfaa
open Go.RowKit

/-- What 'U' tells, and the reader behind it. -/
def uR (S : RS) : Int × RS :=
  if S.ft ≠ none then (0, S) else
  if (numR (S.L.drop S.at_)).2.2 ≠ 0 then (0, { S with ft := some ((numR (S.L.drop S.at_)).2.2, (S.at_ : Int)) }) else
  ((numR (S.L.drop S.at_)).1, { S with at_ := S.at_ + (numR (S.L.drop S.at_)).2.1.toNat })

theorem OwnY.cap {w : World} {base : Nat} {ao : Option Addr} {cap : Nat} {l : List Int} (h : OwnY w base ao cap l) : l.length ≤ cap := by
  rcases h.2 with ⟨h1, h0⟩ | ⟨g, cap', cur, h1, _, _, hn, _⟩
  · omega
  · simp only [Value.slice.injEq, true_and] at h1
    omega
theorem slice_from {w : World} {ao : Option Addr} {l : List Int} {c k : Nat} (h : Rb w ao l) (hk : k ≤ l.length) (hc : l.length ≤ c) :
    ∃ ao', (∀ W, (Instr.slice 43 (.slice ao l.length c) (some (.int .i64 k)) none none).run Try.prog W = .ok (.slice ao' (l.drop k).length (c - k)) W) ∧ Rb w ao' (l.drop k) := by
  obtain ⟨i0, hi, hz0, hz1, hz2⟩ := info_parts Try.info5
  have hel : Try.prog.elem 43 = 5 := by kernel_rfl
  refine ⟨if c = k then ao else ao.map (·.add (k * 1)), fun W => ?_, fun j hj => ?_⟩
  · rw [run_slice_l (P := Try.prog) W 43 ao l.length c (by rw [hel]; exact Try.underlying43) .i64 (k : Int) (by omega) (by omega), hel]
    simp [sizeOf, typeInfo, hi, hz1, sliced, Result.andThen]
  · rw [List.length_drop] at hj
    obtain ⟨b, o, rfl, hcell⟩ := h (k + j) (by omega)
    rw [if_neg (by omega)]
    refine ⟨b, o + k, by rw [Nat.mul_one]; simp [add_lit], ?_⟩
    rw [show o + k + j = o + (k + j) by omega, hcell]
    simp [List.getD_eq_getElem?_getD]
theorem Rb.drewN {w : World} {ao : Option Addr} {l : List Int} (h : Rb w ao l) (n : Nat) : Rb (w.drewN n) ao l := h

set_option maxRecDepth 100000 in
set_option maxHeartbeats 1000000 in
/-- codec.read[uint64] at number. -/
theorem read64_any {W : World} {base r : Nat} {S : RS} {ao : Option Addr} {c : Nat} {fp : Option Addr} (h : Rdr W base r S ao c fp) :
    Calls Try.prog 82 #[.pointer (some ⟨r, 0, none⟩), .func (.func 81) #[] #[]] W fun e w' => e = .returned (.int .u64 (uR S).1) ∧ (∃ fp', Rdr w' base r (uR S).2 ao c fp') ∧ W.grownBy w' (some r) := by
  have HN := Lib.hid (rnone_any h)
  have HH := Lib.hid h
  obtain ⟨a0, a1, a2, a3, f0, f1, f2, f3⟩ := four h.hr
  rcases h.fa with ⟨h1, h2⟩ | ⟨e, a, f, h1, h2, _⟩
  · subst h2
    have h1' := Lib.hid h1
    have hle := h.le
    have hln := h.len
    obtain ⟨ao', hsl, hrb⟩ := slice_from h.own.rb h.le h.own.cap
    have hlen : (S.L.drop S.at_).length ≤ S.L.length := by rw [List.length_drop]; omega
    have hbs : Bs (S.L.drop S.at_) := h.bs.drop _
    have HC := Lib.hid (fun (n : Nat) => (number_any ao' (S.L.drop S.at_) (c - S.at_) (W.drewN n) (hrb.drewN n) hbs (by omega)).mono (fun _ _ hp => And.intro hp.1 hp.2.symm))
    have hok := fun h0 => numR_ok hbs h0
    rw [List.length_drop] at hok
    have hu : uR S = if (numR (S.L.drop S.at_)).2.2 ≠ 0 then (0, { S with ft := some ((numR (S.L.drop S.at_)).2.2, (S.at_ : Int)) }) else ((numR (S.L.drop S.at_)).1, { S with at_ := S.at_ + (numR (S.L.drop S.at_)).2.1.toNat }) := by
      unfold uR; rw [if_neg (by simp [h1])]
    generalize numR (S.L.drop S.at_) = R at *
    obtain ⟨x, k, er⟩ := R
    dsimp only at *
    have HU := Lib.hid hu
    have HSL := Lib.hid hsl
    have HF := Lib.hid (fun (n : Nat) => rfail_any (HH.out.step (below_drewN (Below.refl _ W) n)) h1)
    generalize (S.L.drop S.at_).length = dl at *
    clear hu h1 hrb hbs h
    by_cases her : er = 0
    · subst her
      obtain ⟨k0, k1, x0, x1⟩ := hok rfl
      have hk2 : (S.at_ : Int) + k ≤ S.L.length := by omega
      clear hok
      go_enter Try.func82, Try.ntmps82
      go_wp2_with fail
      refine HN.out.mono ?_
      rintro en w' ⟨rfl, rfl⟩
      go_wp2_with fail
      go_quiet ((go_at_call 81; exact Calls.quiet_of_same (HC.out _)))
      go_wp2_with fail
      go_ret
      have hd := HH.out.step (below_drewN (Below.refl _ W) nq)
      rw [HU.out, if_neg (by simp)]
      refine ⟨rfl, ⟨none, ?_, hd.own.setCell (a := ⟨r, 1, none⟩) hd.ne _, hd.ne, hd.lo, .inl ⟨h1'.out, rfl⟩, hd.bs, by simp only; omega, hd.len⟩, grown_trans (grown_below _ (below_drewN (Below.refl _ W) nq)) (grown_set _)⟩
      have := heap4_set1 hd.hr (.int .i64 ((S.at_ : Int) + k))
      rw [show (((S.at_ + k.toNat : Nat) : Int)) = (S.at_ : Int) + k by omega]
      exact this
    · have hq : (er == 0) = false := by rw [beq_eq_false_iff_ne]; exact her
      have hq' : (er != 0) = true := by simpa using her
      have HE := Lib.hid her
      clear hok her
      go_enter Try.func82, Try.ntmps82
      go_wp2_with fail
      refine HN.out.mono ?_
      rintro en w' ⟨rfl, rfl⟩
      go_wp2_with fail
      go_quiet ((go_at_call 81; exact Calls.quiet_of_same (HC.out _)))
      go_wp2_with fail
      refine (HF.out nq er S.at_ HE.out).mono ?_
      rintro en w2 ⟨rfl, hR, hg⟩
      have HR := Lib.hid (And.intro hR hg)
      clear hR hg
      go_wp2_with fail
      go_ret
      rw [HU.out, if_pos HE.out]
      exact ⟨rfl, HR.out.1, grown_trans (grown_below _ (below_drewN (Below.refl _ W) nq)) HR.out.2⟩
  · subst h2
    have HU : Hid (uR S = (0, S)) := Lib.hid (by unfold uR; rw [if_pos (by rw [h1]; simp)])
    clear h h1
    go_enter Try.func82, Try.ntmps82
    go_wp2_with fail
    refine HN.out.mono ?_
    rintro en w' ⟨rfl, rfl⟩
    go_wp2_with fail
    go_ret
    rw [HU.out]
    exact ⟨rfl, ⟨_, HH.out⟩, grown_below _ (Below.refl _ _)⟩

set_option maxHeartbeats 400000 in
/-- (*codec.Reader).U. -/
theorem u_any {W : World} {base r : Nat} {S : RS} {ao : Option Addr} {c : Nat} {fp : Option Addr} (h : Rdr W base r S ao c fp) :
    Calls Try.prog 61 #[.pointer (some ⟨r, 0, none⟩)] W fun e w' => e = .returned (.int .u64 (uR S).1) ∧ (∃ fp', Rdr w' base r (uR S).2 ao c fp') ∧ W.grownBy w' (some r) := by
  have HR := Lib.hid (read64_any h)
  clear h
  go_enter Try.func61, Try.ntmps61
  go_wp2_with fail
  refine HR.out.mono ?_
  rintro e w' ⟨rfl, hR⟩
  go_wp2_with fail
  go_ret
  exact ⟨rfl, hR⟩
end Go.Proofs.Ytjiffflhedekfaa
end
section
/- codec.Reader: N, from 1 to 64; End; NewReader. -/
namespace Go.Proofs.Ytjiffflhedekfaa
open Go.RowKit

/-- What is wrong with a number that is to lie from 1 to 64. -/
def numE (R : Int × Int × Int) : Int := if R.2.2 ≠ 0 then R.2.2 else if 64 < R.1 ∨ R.1 < 1 then 3 else 0
def nR (S : RS) : Int × RS :=
  if S.ft ≠ none then (0, S) else
  if numE (numR (S.L.drop S.at_)) ≠ 0 then (0, { S with ft := some (numE (numR (S.L.drop S.at_)), (S.at_ : Int)) }) else
  ((numR (S.L.drop S.at_)).1, { S with at_ := S.at_ + (numR (S.L.drop S.at_)).2.1.toNat })

theorem numF_x (l : List Int) : ∀ (i : Nat) (n : Int), (numF i n l).2.2 ≠ 0 → (numF i n l).1 = 0 := by
  induction l with
  | nil => intro i n _; rfl
  | cons x l ih =>
    intro i n h
    rw [numF] at h ⊢
    by_cases c1 : i = 9 ∧ 1 < x ∨ 0 < i ∧ x = 0
    · rw [if_pos c1]
    rw [if_neg c1] at h ⊢
    by_cases c2 : x < 128
    · rw [if_pos c2] at h; simp at h
    · rw [if_neg c2] at h ⊢; exact ih _ _ h
theorem numR_x {l : List Int} (h : (numR l).2.2 ≠ 0) : (numR l).1 = 0 := numF_x l 0 0 h

set_option maxRecDepth 100000 in
set_option maxHeartbeats 1000000 in
theorem n1_any (mb lb : Nat) (ao : Option Addr) (l : List Int) (c : Nat) (W : World) (hl : Rb W ao l) (bl : Bs l) (nl : l.length ≤ 140737488355328) (hm : W.heap[mb]? = some (.cells #[.int .i64 64] 3 (0, 0))) (hlb : W.heap[lb]? = some (.cells #[.int .i64 1] 3 (0, 0))) :
    Calls Try.prog 80 #[.slice ao l.length c, .pointer (some ⟨mb, 0, none⟩), .pointer (some ⟨lb, 0, none⟩)] W fun e w' => e = .returned (.tuple #[.int .i64 (wrap64 (numR l).1), .int .i64 (numR l).2.1, .int .i64 (numE (numR l))]) ∧ W = w' := by
  have HC := Lib.hid (number_any ao l c W hl bl nl)
  have hok := fun h0 => numR_ok bl h0
  have hzx := @numR_x l
  have c1 := cell_of_one hm
  have c2 := cell_of_one hlb
  generalize numR l = R at *
  obtain ⟨x, k, er⟩ := R
  dsimp only at *
  have HE : Hid (numE (x, k, er) = if er ≠ 0 then er else if 64 < x ∨ x < 1 then 3 else 0) := Lib.hid rfl
  clear hl bl hm hlb
  by_cases her : er = 0
  · subst her
    obtain ⟨k0, k1, x0, x1⟩ := hok rfl
    clear hok hzx
    by_cases h64 : 64 < x
    · have HX : Hid (numE (x, k, 0) = 3) := Lib.hid (by rw [HE.out, if_neg (by simp), if_pos (Or.inl h64)])
      clear HE
      go_enter Try.func80, Try.ntmps80
      go_wp2_with fail
      refine HC.out.mono ?_
      rintro e w' ⟨rfl, rfl⟩
      go_wp2_with fail
      go_ret3
      rw [HX.out]
      exact ⟨rfl, rfl⟩
    · by_cases h1 : x < 1
      · have HX : Hid (numE (x, k, 0) = 3) := Lib.hid (by rw [HE.out, if_neg (by simp), if_pos (Or.inr h1)])
        have hx0 : x ≤ 64 := by omega
        clear HE h64
        go_enter Try.func80, Try.ntmps80
        go_wp2_with fail
        refine HC.out.mono ?_
        rintro e w' ⟨rfl, rfl⟩
        go_wp2_with fail
        go_ret3
        rw [HX.out]
        exact ⟨by rw [show wrap64 x = x by unfold wrap64; omega]; rfl, rfl⟩
      · have HX : Hid (numE (x, k, 0) = 0) := Lib.hid (by rw [HE.out, if_neg (by simp), if_neg (by omega)])
        have hx0 : x ≤ 64 := by omega
        have hx1 : 1 ≤ x := by omega
        clear HE h64 h1
        go_enter Try.func80, Try.ntmps80
        go_wp2_with fail
        refine HC.out.mono ?_
        rintro e w' ⟨rfl, rfl⟩
        go_wp2_with fail
        go_ret3
        rw [HX.out]
        exact ⟨by rw [show wrap64 x = x by unfold wrap64; omega]; rfl, rfl⟩
  · have HX : Hid (numE (x, k, er) = er) := Lib.hid (by rw [HE.out, if_pos her])
    obtain rfl := hzx her
    have hq : (er == 0) = false := by rw [beq_eq_false_iff_ne]; exact her
    clear HE hok her hzx
    go_enter Try.func80, Try.ntmps80
    go_wp2_with fail
    refine HC.out.mono ?_
    rintro e w' ⟨rfl, rfl⟩
    go_wp2_with fail
    go_ret3
    rw [HX.out]
    exact ⟨by rw [show wrap64 0 = 0 by unfold wrap64; omega]; rfl, rfl⟩

set_option maxRecDepth 100000 in
set_option maxHeartbeats 1000000 in
/-- codec.read[int] at N's func, from 1 to 64. -/
theorem readn_any {W : World} {base r : Nat} {S : RS} {ao : Option Addr} {c : Nat} {fp : Option Addr} (mb lb : Nat) (hmb : W.heap[mb]? = some (.cells #[.int .i64 64] 3 (0, 0))) (hlb : W.heap[lb]? = some (.cells #[.int .i64 1] 3 (0, 0))) (h : Rdr W base r S ao c fp) :
    Calls Try.prog 79 #[.pointer (some ⟨r, 0, none⟩), .func (.func 80) #[] #[.pointer (some ⟨mb, 0, none⟩), .pointer (some ⟨lb, 0, none⟩)]] W fun e w' => e = .returned (.int .i64 (nR S).1) ∧ (∃ fp', Rdr w' base r (nR S).2 ao c fp') ∧ W.grownBy w' (some r) := by
  have HN := Lib.hid (rnone_any h)
  have HH := Lib.hid h
  obtain ⟨a0, a1, a2, a3, f0, f1, f2, f3⟩ := four h.hr
  rcases h.fa with ⟨h1, h2⟩ | ⟨e, a, f, h1, h2, _⟩
  · subst h2
    have h1' := Lib.hid h1
    have hle := h.le
    have hln := h.len
    obtain ⟨ao', hsl, hrb⟩ := slice_from h.own.rb h.le h.own.cap
    have hlen : (S.L.drop S.at_).length ≤ S.L.length := by rw [List.length_drop]; omega
    have hbs : Bs (S.L.drop S.at_) := h.bs.drop _
    have HC := Lib.hid (fun (n : Nat) => (n1_any mb lb ao' (S.L.drop S.at_) (c - S.at_) (W.drewN n) (hrb.drewN n) hbs (by omega) hmb hlb).mono (fun _ _ hp => And.intro hp.1 hp.2.symm))
    have hok := fun h0 => numR_ok hbs h0
    rw [List.length_drop] at hok
    have hu : nR S = if numE (numR (S.L.drop S.at_)) ≠ 0 then (0, { S with ft := some (numE (numR (S.L.drop S.at_)), (S.at_ : Int)) }) else ((numR (S.L.drop S.at_)).1, { S with at_ := S.at_ + (numR (S.L.drop S.at_)).2.1.toNat }) := by
      unfold nR; rw [if_neg (by simp [h1])]
    have hne : numE (numR (S.L.drop S.at_)) = 0 → (numR (S.L.drop S.at_)).2.2 = 0 ∧ 1 ≤ (numR (S.L.drop S.at_)).1 ∧ (numR (S.L.drop S.at_)).1 ≤ 64 := fun h0 => by
      unfold numE at h0
      by_cases g : (numR (S.L.drop S.at_)).2.2 = 0
      · rw [if_neg (by simp [g])] at h0
        split at h0
        · cases h0
        · exact ⟨g, by omega, by omega⟩
      · rw [if_pos g] at h0; exact absurd h0 g
    generalize hEE : numE (numR (S.L.drop S.at_)) = er at *
    clear hEE
    generalize numR (S.L.drop S.at_) = R at *
    obtain ⟨x, k, er0⟩ := R
    dsimp only at *
    have HU := Lib.hid hu
    have HSL := Lib.hid hsl
    have HF := Lib.hid (fun (n : Nat) => rfail_any (HH.out.step (below_drewN (Below.refl _ W) n)) h1)
    generalize (S.L.drop S.at_).length = dl at *
    clear hu h1 hrb hbs h
    by_cases her : er = 0
    · subst her
      obtain ⟨g1, g2, g3⟩ := hne rfl
      obtain ⟨k0, k1, x0, x1⟩ := hok g1
      have hwx : Hid (wrap64 x = x) := Lib.hid (by unfold wrap64; omega)
      rw [hwx.out] at HC
      have hk2 : (S.at_ : Int) + k ≤ S.L.length := by omega
      clear hok hne g1
      go_enter Try.func79, Try.ntmps79
      go_wp2_with fail
      refine HN.out.mono ?_
      rintro en w' ⟨rfl, rfl⟩
      go_wp2_with fail
      go_quiet ((go_at_call 80; exact Calls.quiet_of_same (HC.out _)))
      go_wp2_with fail
      go_ret
      have hd := HH.out.step (below_drewN (Below.refl _ W) nq)
      rw [HU.out, if_neg (by simp)]
      refine ⟨rfl, ⟨none, ?_, hd.own.setCell (a := ⟨r, 1, none⟩) hd.ne _, hd.ne, hd.lo, .inl ⟨h1'.out, rfl⟩, hd.bs, by simp only; omega, hd.len⟩, grown_trans (grown_below _ (below_drewN (Below.refl _ W) nq)) (grown_set _)⟩
      have := heap4_set1 hd.hr (.int .i64 ((S.at_ : Int) + k))
      rw [show (((S.at_ + k.toNat : Nat) : Int)) = (S.at_ : Int) + k by omega]
      exact this
    · have hq : (er == 0) = false := by rw [beq_eq_false_iff_ne]; exact her
      have hq' : (er != 0) = true := by simpa using her
      have HE := Lib.hid her
      clear hok her hne
      go_enter Try.func79, Try.ntmps79
      go_wp2_with fail
      refine HN.out.mono ?_
      rintro en w' ⟨rfl, rfl⟩
      go_wp2_with fail
      go_quiet ((go_at_call 80; exact Calls.quiet_of_same (HC.out _)))
      go_wp2_with fail
      refine (HF.out nq er S.at_ HE.out).mono ?_
      rintro en w2 ⟨rfl, hR, hg⟩
      have HR := Lib.hid (And.intro hR hg)
      clear hR hg
      go_wp2_with fail
      go_ret
      rw [HU.out, if_pos HE.out]
      exact ⟨rfl, HR.out.1, grown_trans (grown_below _ (below_drewN (Below.refl _ W) nq)) HR.out.2⟩
  · subst h2
    have HU : Hid (nR S = (0, S)) := Lib.hid (by unfold nR; rw [if_pos (by rw [h1]; simp)])
    clear h h1
    go_enter Try.func79, Try.ntmps79
    go_wp2_with fail
    refine HN.out.mono ?_
    rintro en w' ⟨rfl, rfl⟩
    go_wp2_with fail
    go_ret
    rw [HU.out]
    exact ⟨rfl, ⟨_, HH.out⟩, grown_below _ (Below.refl _ _)⟩


set_option maxHeartbeats 400000 in
/-- (*codec.Reader).N, from 1 to 64. -/
theorem n_any {W : World} {base r : Nat} {S : RS} {ao : Option Addr} {c : Nat} {fp : Option Addr} (h : Rdr W base r S ao c fp) :
    Calls Try.prog 60 #[.pointer (some ⟨r, 0, none⟩), .int .i64 1, .int .i64 64] W fun e w' => e = .returned (.int .i64 (nR S).1) ∧ (∃ fp', Rdr w' base r (nR S).2 ao c fp') ∧ W.grownBy w' (some r) := by
  have hW := ((Below.refl W.heap.size W).alloc (Nat.le_refl _) (.cells #[.int .i64 1] 3)).alloc (by simp) (.cells #[.int .i64 64] 3)
  have HR := Lib.hid (readn_any (W.heap.size + 1) W.heap.size (heap_at (W.alloc (.cells #[.int .i64 1] 3)) (.cells #[.int .i64 64] 3) (by simp)) ((heap_old _ _ (by simp)).trans (heap_at W (.cells #[.int .i64 1] 3) rfl)) (h.step hW))
  have HW := Lib.hid hW
  clear h hW
  go_enter Try.func60, Try.ntmps60
  go_wp2_with fail
  refine HR.out.mono ?_
  rintro e w' ⟨rfl, hR, hg⟩
  go_wp2_with fail
  go_ret
  exact ⟨rfl, hR, grown_trans (grown_below _ HW.out) hg⟩
end Go.Proofs.Ytjiffflhedekfaa
end
section
/- codec.Reader: End; NewReader. -/
namespace Go.Proofs.Ytjiffflhedekfaa
open Go.RowKit

/-- What 'End' tells. -/
def endR (S : RS) : Int × Int :=
  match S.ft with
  | some (e, a) => (e, a)
  | none => if S.at_ < S.L.length then (4, (S.at_ : Int)) else (0, 0)

set_option maxRecDepth 100000 in
set_option maxHeartbeats 1000000 in
/-- codec.NewReader. -/
theorem newReader_any (ao : Option Addr) (l : List Int) (c : Nat) (w : World) (hl : Rb w ao l) (bl : Bs l) (nl : l.length ≤ 140737488355328) :
    Calls Try.prog 59 #[.slice ao l.length c] w fun e w' => ∃ r ao' c', e = .returned (.pointer (some ⟨r, 0, none⟩)) ∧ Rdr w' w.heap.size r ⟨l, 0, none⟩ ao' c' none ∧ Below w.heap.size w w' := by
  have HC := Lib.hid (cloneB_any ao l c w hl nl)
  have HB := Lib.hid bl
  clear hl bl
  go_enter Try.func59, Try.ntmps59
  go_wp2_with fail
  refine HC.out.mono ?_
  rintro e w1 ⟨ao', cap, rfl, hown, hb⟩
  have hs : w.heap.size ≤ w1.heap.size := hb.size
  have HO := Lib.hid hown
  have HW := Lib.hid hb
  clear hown hb
  go_wp2_with fail
  go_ret
  refine ⟨w1.heap.size, ao', cap, rfl, ⟨heap_at w1 _ rfl, HO.out.alloc _, fun p hp => by have := (HO.out.low p hp).2; omega, hs, .inl ⟨rfl, rfl⟩, HB.out, Nat.zero_le _, nl⟩, HW.out.alloc hs _⟩

set_option maxRecDepth 100000 in
set_option maxHeartbeats 1000000 in
/-- (*codec.Reader).End. -/
theorem end_any {W : World} {base r : Nat} {S : RS} {ao : Option Addr} {c : Nat} {fp : Option Addr} (h : Rdr W base r S ao c fp) :
    Calls Try.prog 62 #[.pointer (some ⟨r, 0, none⟩)] W fun e w' => e = .returned (.agg #[.int .i64 (endR S).1, .int .i64 (endR S).2]) ∧ Below W.heap.size W w' := by
  have hW := (Below.refl W.heap.size W).alloc (Nat.le_refl _) (.cells #[.int .i64 0, .int .i64 0] 49)
  have HN := Lib.hid (rnone_any (h.step hW))
  obtain ⟨a0, a1, a2, a3, f0, f1, f2, f3⟩ := four (h.step hW).hr
  obtain ⟨a0', a1', a2', a3', f0', f1', f2', f3'⟩ := four h.hr
  rcases h.fa with ⟨h1, h2⟩ | ⟨e, a, f, h1, h2, h3, _⟩
  · subst h2
    have hle := h.le
    have hln := h.len
    by_cases hlt : S.at_ < S.L.length
    · have HU : Hid (endR S = (4, (S.at_ : Int))) := Lib.hid (by unfold endR; rw [h1]; simp only [if_pos hlt])
      clear h1 h hW
      go_enter Try.func62, Try.ntmps62
      go_wp2_with fail
      refine HN.out.mono ?_
      rintro en w' ⟨rfl, rfl⟩
      go_wp2_with fail
      go_quiet (fail)
      go_wp2_with fail
      refine bodyPost_ret (v := .agg #[.int .i64 4, .int .i64 S.at_]) (by simp [results, Try.results62, go_sem]) rfl ?_
      rw [HU.out]
      exact ⟨rfl, ((below_drewN ((Below.refl W.heap.size W).alloc (Nat.le_refl _) _) nq).setCell (p := ⟨W.heap.size, 0, none⟩) (Nat.le_refl _) _).setCell (p := ⟨W.heap.size, 1, none⟩) (Nat.le_refl _) _⟩
    · have HU : Hid (endR S = (0, 0)) := Lib.hid (by unfold endR; rw [h1]; simp only [if_neg hlt])
      clear h1 h hW
      go_enter Try.func62, Try.ntmps62
      go_wp2_with fail
      refine HN.out.mono ?_
      rintro en w' ⟨rfl, rfl⟩
      go_wp2_with fail
      go_quiet (fail)
      go_wp2_with fail
      refine bodyPost_ret (v := .agg #[.int .i64 0, .int .i64 0]) (by simp [results, Try.results62, go_sem]) rfl ?_
      rw [HU.out]
      exact ⟨rfl, ((below_drewN ((Below.refl W.heap.size W).alloc (Nat.le_refl _) _) nq).setCell (p := ⟨W.heap.size, 0, none⟩) (Nat.le_refl _) _).setCell (p := ⟨W.heap.size, 1, none⟩) (Nat.le_refl _) _⟩
  · subst h2
    have HU : Hid (endR S = (e, a)) := Lib.hid (by unfold endR; rw [h1])
    have hl : W.heap.size ≠ f := by have := (Array.getElem?_eq_some_iff.1 h3).1; omega
    have h3' := (heap_old W (.cells #[.int .i64 0, .int .i64 0] 49) (by have := (Array.getElem?_eq_some_iff.1 h3).1; omega)).trans h3
    obtain ⟨b0, b1, _⟩ := two h3'
    obtain ⟨c0, c1, _⟩ := two h3
    clear h1 h hW h3 h3'
    go_enter Try.func62, Try.ntmps62
    go_wp2_with fail
    refine HN.out.mono ?_
    rintro en w' ⟨rfl, rfl⟩
    go_wp2_with fail
    refine bodyPost_ret (v := .agg #[.int .i64 e, .int .i64 a]) (by simp [results, Try.results62, go_sem]) rfl ?_
    rw [HU.out]
    exact ⟨rfl, (Below.refl W.heap.size W).alloc (Nat.le_refl _) _⟩
end Go.Proofs.Ytjiffflhedekfaa
end
section
/- bank.Read: what it tells, and how memory stands in its loops. -/
namespace Go.Proofs.Ytjiffflhedekfaa
open Go.RowKit

/-- So many numbers, one behind the other. -/
def uN : Nat → RS → List Int × RS
  | 0, S => ([], S)
  | k + 1, S => ((uN k S).1 ++ [(uR (uN k S).2).1], (uR (uN k S).2).2)
def readB (raw : List Int) : Bk × RS :=
  let S1 := (nR ⟨raw, 0, none⟩).2
  let a := uN (nR ⟨raw, 0, none⟩).1.toNat S1
  let p := uN 4 a.2
  (⟨a.1, p.1.getD 0 0, p.1.getD 1 0, p.1.getD 2 0, p.1.getD 3 0⟩, p.2)
/-- What 'Read' tells. -/
def readR (raw : List Int) : Bk × Int × Int :=
  if (endR (readB raw).2).1 ≠ 0 then (B0, endR (readB raw).2) else if (readB raw).1.chk ≠ 0 then (B0, 12, 0) else ((readB raw).1, 0, 0)

/-- A reader's place lies in its bytes. -/
def RS.Ok (S : RS) : Prop := Bs S.L ∧ S.at_ ≤ S.L.length
theorem uR_ok {S : RS} (h : S.Ok) : (uR S).2.Ok ∧ W64 (uR S).1 ∧ (uR S).2.L = S.L := by
  unfold uR
  split
  · exact ⟨h, ⟨by omega, by omega⟩, rfl⟩
  · split
    · exact ⟨h, ⟨by omega, by omega⟩, rfl⟩
    · rename_i h1 h2
      have := numR_ok (h.1.drop S.at_) (Decidable.not_not.1 h2)
      rw [List.length_drop] at this
      have h' := h.2
      exact ⟨⟨h.1, by simp only; omega⟩, ⟨this.2.2.1, this.2.2.2⟩, rfl⟩
theorem nR_ok {S : RS} (h : S.Ok) : (nR S).2.Ok ∧ 0 ≤ (nR S).1 ∧ (nR S).1 ≤ 64 ∧ (nR S).2.L = S.L := by
  unfold nR
  split
  · exact ⟨h, by omega, by omega, rfl⟩
  · split
    · exact ⟨h, by omega, by omega, rfl⟩
    · rename_i h1 h2
      have h2' := Decidable.not_not.1 h2
      have h3 : (numR (S.L.drop S.at_)).2.2 = 0 ∧ 1 ≤ (numR (S.L.drop S.at_)).1 ∧ (numR (S.L.drop S.at_)).1 ≤ 64 := by
        unfold numE at h2'
        by_cases g : (numR (S.L.drop S.at_)).2.2 = 0
        · rw [if_neg (by simp [g])] at h2'
          split at h2'
          · cases h2'
          · exact ⟨g, by omega, by omega⟩
        · rw [if_pos g] at h2'; exact absurd h2' g
      have := numR_ok (h.1.drop S.at_) h3.1
      rw [List.length_drop] at this
      have h' := h.2
      exact ⟨⟨h.1, by simp only; omega⟩, by simp only; omega, h3.2.2, rfl⟩
theorem uN_ok {S : RS} (h : S.Ok) (k : Nat) : (uN k S).2.Ok ∧ Ws (uN k S).1 ∧ (uN k S).1.length = k ∧ (uN k S).2.L = S.L := by
  induction k with
  | zero => exact ⟨h, Ws.nil, rfl, rfl⟩
  | succ k ih =>
    obtain ⟨h1, h2, h3, h4⟩ := ih
    have := uR_ok h1
    refine ⟨this.1, h2.append (Ws.cons this.2.1 Ws.nil), by simp [uN, h3], this.2.2.trans h4⟩

section
variable {W : World} {base r : Nat} {S : RS} {ao : Option Addr} {c : Nat} {fp : Option Addr}
theorem OwnY.typed (h : OwnY W base ao c S.L) : ∀ p, ao = some p → ∃ cs m, W.heap[p.block]? = some (.cells cs 5 m) := fun p hp => by
  subst hp
  rcases h.2 with ⟨h1, _⟩ | ⟨g, cap', cur, h1, _, h3, _⟩
  · simp at h1
  · simp only [Value.slice.injEq, Option.some.injEq, true_and] at h1
    rw [h1.1]; exact ⟨_, _, h3⟩
theorem OwnW.typed {l : List Int} (h : OwnW W base ao c l) : ∀ p, ao = some p → ∃ cs m, W.heap[p.block]? = some (.cells cs 23 m) := fun p hp => by
  subst hp
  rcases h.2 with ⟨h1, _⟩ | ⟨g, cap', cur, h1, _, h3, _⟩
  · simp at h1
  · simp only [Value.slice.injEq, Option.some.injEq, true_and] at h1
    rw [h1.1]; exact ⟨_, _, h3⟩
/-- The reader lies on where a block of another type is written. -/
theorem Rdr.grown (h : Rdr W base r S ao c fp) {W' : World} {row : Option Nat} (hg : W.grownBy W' row) (ht : ∀ g, row = some g → ∃ cs t m, W.heap[g]? = some (.cells cs t m) ∧ t ≠ 101 ∧ t ≠ 5 ∧ t ≠ 49) : Rdr W' base r S ao c fp := by
  have keep : ∀ (k : Nat) (cs : Array Value) (t : TypeId) (m : Nat × Nat), W.heap[k]? = some (.cells cs t m) → (t = 101 ∨ t = 5 ∨ t = 49) → W'.heap[k]? = some (.cells cs t m) := fun k cs t m hk h' => by
    refine (hg.block k (Array.getElem?_eq_some_iff.1 hk).1 (fun e => ?_)).trans hk
    obtain ⟨cs', t', m', h1, h2⟩ := ht k e.symm
    rw [hk] at h1
    simp only [Option.some.injEq, Obj.cells.injEq] at h1
    obtain ⟨_, rfl, _⟩ := h1
    rcases h' with rfl | rfl | rfl
    · exact h2.1 rfl
    · exact h2.2.1 rfl
    · exact h2.2.2 rfl
  refine ⟨keep _ _ _ _ h.hr (.inl rfl), ?_, h.ne, h.lo, ?_, h.bs, h.le, h.len⟩
  · exact ⟨h.own.1, h.own.2.imp id fun ⟨g, cap', cur, h1, h2, h3, r⟩ => ⟨g, cap', cur, h1, h2, keep _ _ _ _ h3 (.inr (.inl rfl)), r⟩⟩
  · exact h.fa.imp id fun ⟨e, a, f, h1, h2, h3, h4⟩ => ⟨e, a, f, h1, h2, keep _ _ _ _ h3 (.inr (.inr rfl)), h4⟩
theorem OwnW.grown {l : List Int} (h : OwnW W base ao c l) {W' : World} {row : Option Nat} (hg : W.grownBy W' row) (ht : ∀ g, row = some g → ∃ cs t m, W.heap[g]? = some (.cells cs t m) ∧ t ≠ 23) : OwnW W' base ao c l :=
  ⟨h.1, h.2.imp id fun ⟨g, cap', cur, h1, h2, h3, r⟩ => ⟨g, cap', cur, h1, h2, (hg.block g (lt_of_block h3) (fun e => by
    obtain ⟨cs', t', m', k1, k2⟩ := ht g e.symm
    rw [h3] at k1
    simp only [Option.some.injEq, Obj.cells.injEq] at k1
    exact k2 k1.2.1.symm)).trans h3, r⟩⟩
end

/-- In the loops of Read: the reader, the bank's variable, the accounts. -/
structure RdSit (w W : World) (bk r : Nat) (S : RS) (ao : Option Addr) (c : Nat) (fp la : Option Addr) (cap : Nat) (B : Bk) : Prop where
  below : Below w.heap.size w W
  rdr : Rdr W w.heap.size r S ao c fp
  lo : w.heap.size ≤ bk
  hb : W.heap[bk]? = some (.cells #[.slice la B.L.length cap, .int .u64 B.p0, .int .u64 B.p1, .int .u64 B.p2, .int .u64 B.p3] 26 (0, 0))
  own : OwnW W w.heap.size la cap B.L
section
variable {w W : World} {bk r : Nat} {S : RS} {ao : Option Addr} {c : Nat} {fp la : Option Addr} {cap : Nat} {B : Bk}
theorem RdSit.step (h : RdSit w W bk r S ao c fp la cap B) {W' : World} (hb : Below W.heap.size W W') : RdSit w W' bk r S ao c fp la cap B :=
  ⟨h.below.trans (hb.mono h.below.size), h.rdr.step hb, h.lo, (hb.block _ (lt_of_block h.hb)).trans h.hb, h.own.below hb⟩
theorem ne_of_types {W : World} {a b : Nat} {cs ds : Array Value} {t u : TypeId} {m n : Nat × Nat} (ha : W.heap[a]? = some (.cells cs t m)) (hb : W.heap[b]? = some (.cells ds u n)) (h : t ≠ u) : a ≠ b := fun e => by
  subst e
  rw [ha] at hb
  simp only [Option.some.injEq, Obj.cells.injEq] at hb
  exact h hb.2.1
/-- Behind a call that reads a number. -/
theorem RdSit.read (h : RdSit w W bk r S ao c fp la cap B) {W' : World} {S' : RS} {fp' : Option Addr} (hr : Rdr W' w.heap.size r S' ao c fp') (hg : W.grownBy W' (some r)) : RdSit w W' bk r S' ao c fp' la cap B := by
  have hlr := h.rdr.lo
  refine ⟨h.below.grown hg h.below.size (fun k e => by cases e; exact hlr), hr, h.lo, (hg.block _ (lt_of_block h.hb) (fun e => ne_of_types h.hb h.rdr.hr (by decide) (by cases e; rfl))).trans h.hb, h.own.grown hg (fun g e => by cases e; exact ⟨_, _, _, h.rdr.hr, by decide⟩)⟩
end
end Go.Proofs.Ytjiffflhedekfaa
end
section
/- bank.Read: the walk. -/
namespace Go.Proofs.Ytjiffflhedekfaa
open Go.RowKit

theorem RdSit.app {w W W' : World} {bk r : Nat} {S : RS} {ao : Option Addr} {c : Nat} {fp la : Option Addr} {cap : Nat} {B : Bk} (h : RdSit w W bk r S ao c fp la cap B) {g cap' : Nat} {l : List Int}
    (hown : OwnW W' w.heap.size (some ⟨g, 0, none⟩) cap' l) (hgrow : W.grownBy W' (la.map (·.block))) :
    RdSit w (W'.setCell ⟨bk, 0, none⟩ (.slice (some ⟨g, 0, none⟩) l.length cap')) bk r S ao c fp (some ⟨g, 0, none⟩) cap' { B with L := l } := by
  have hty : ∀ q, la.map (·.block) = some q → ∃ cs m, W.heap[q]? = some (.cells cs 23 m) := fun q hq => by
    cases hl : la with
    | none => rw [hl] at hq; cases hq
    | some p => rw [hl] at hq; simp at hq; subst hq; exact h.own.typed p hl
  have hlow : ∀ q, la.map (·.block) = some q → w.heap.size ≤ q := fun q hq => by
    cases hl : la with
    | none => rw [hl] at hq; cases hq
    | some p => rw [hl] at hq; simp at hq; subst hq; exact h.own.low p hl
  have hb' : W'.heap[bk]? = some (.cells #[.slice la B.L.length cap, .int .u64 B.p0, .int .u64 B.p1, .int .u64 B.p2, .int .u64 B.p3] 26 (0, 0)) :=
    (hgrow.block _ (lt_of_block h.hb) (fun e => by obtain ⟨cs, m, hm⟩ := hty _ e.symm; exact ne_of_types h.hb hm (by decide) rfl)).trans h.hb
  have hr' : Rdr W' w.heap.size r S ao c fp := h.rdr.grown hgrow (fun q hq => by obtain ⟨cs, m, hm⟩ := hty q hq; exact ⟨cs, 23, m, hm, by decide, by decide, by decide⟩)
  have hset : W'.grownBy (W'.setCell ⟨bk, 0, none⟩ (.slice (some ⟨g, 0, none⟩) l.length cap')) (some bk) := grown_set _
  have hlo := h.lo
  have hsz := hgrow.size
  refine ⟨(h.below.grown hgrow h.below.size hlow).grown hset (by have := h.below.size; omega) (fun k e => by cases e; exact hlo), hr'.grown hset (fun q hq => by cases hq; exact ⟨_, _, _, hb', by decide, by decide, by decide⟩), hlo, ?_, hown.grown hset (fun q hq => by cases hq; exact ⟨_, _, _, hb', by decide⟩)⟩
  simp [World.setCell, Array.getElem?_modify, hb']

theorem own_block' (la : Option Addr) (n c : Nat) : (Value.slice la n c).ownBlock = la.map (·.block) := by cases la <;> simp [Value.ownBlock]
theorem RdSit.far {w W W' : World} {bk r : Nat} {S : RS} {ao : Option Addr} {c : Nat} {fp la : Option Addr} {cap : Nat} {B : Bk} (h : RdSit w W bk r S ao c fp la cap B) {o : Obj} {n cp : Nat} (hgrow : (W.alloc o).grownBy W' (Value.slice la n cp).ownBlock) :
    W'.cell? ⟨bk, 0, none⟩ = some (.slice la B.L.length cap) ∧ W'.frozen? ⟨bk, 0, none⟩ = false ∧ W.grownBy W' (la.map (·.block)) := by
  rw [own_block'] at hgrow
  have hg : W.grownBy W' (la.map (·.block)) := grown_trans (World.grownBy_alloc W o _) hgrow
  have hty : ∀ q, la.map (·.block) = some q → ∃ cs m, W.heap[q]? = some (.cells cs 23 m) := fun q hq => by
    cases hl : la with
    | none => rw [hl] at hq; cases hq
    | some p => rw [hl] at hq; simp at hq; subst hq; exact h.own.typed p hl
  have hb' : W'.heap[bk]? = some (.cells #[.slice la B.L.length cap, .int .u64 B.p0, .int .u64 B.p1, .int .u64 B.p2, .int .u64 B.p3] 26 (0, 0)) :=
    (hg.block _ (lt_of_block h.hb) (fun e => by obtain ⟨cs, m, hm⟩ := hty _ e.symm; exact ne_of_types h.hb hm (by decide) rfl)).trans h.hb
  obtain ⟨x0, _, _, _, _, f0, _⟩ := five hb'
  exact ⟨x0, f0, hg⟩

theorem own_snoc {w : World} {base g cap : Nat} {l : List Int} {x : Int} (h : w.ownsRow base 23 1 (.slice (some ⟨g, 0, none⟩) (l.length + 1) cap) (l.length + 1) (l.map (Value.int .u64) ++ [.int .u64 x])) : OwnW w base (some ⟨g, 0, none⟩) cap (l ++ [x]) := by
  unfold OwnW; simpa using h
theorem RdSit.pool {w W : World} {bk r : Nat} {S : RS} {ao : Option Addr} {c : Nat} {fp la : Option Addr} {cap : Nat} {B : Bk} (h : RdSit w W bk r S ao c fp la cap B) (k : Nat) (hk : k < 4) (x : Int) :
    RdSit w (W.setCell ⟨bk, 1 + k, none⟩ (.int .u64 x)) bk r S ao c fp la cap (B.setPool k x) := by
  have hset : W.grownBy (W.setCell ⟨bk, 1 + k, none⟩ (.int .u64 x)) (some bk) := grown_set _
  have hlo := h.lo
  have hbk := h.hb
  refine ⟨h.below.grown hset h.below.size (fun k e => by cases e; exact hlo), h.rdr.grown hset (fun q hq => by cases hq; exact ⟨_, _, _, hbk, by decide, by decide, by decide⟩), hlo, ?_, by rw [setPool_L]; exact h.own.grown hset (fun q hq => by cases hq; exact ⟨_, _, _, hbk, by decide⟩)⟩
  rw [setPool_L]
  match k, hk with
  | 0, _ => simp [World.setCell, Array.getElem?_modify, hbk, Bk.setPool]
  | 1, _ => simp [World.setCell, Array.getElem?_modify, hbk, Bk.setPool]
  | 2, _ => simp [World.setCell, Array.getElem?_modify, hbk, Bk.setPool]
  | 3, _ => simp [World.setCell, Array.getElem?_modify, hbk, Bk.setPool]
def bof (L p : List Int) : Bk := ⟨L, p.getD 0 0, p.getD 1 0, p.getD 2 0, p.getD 3 0⟩
theorem bof_snoc (L p : List Int) (x : Int) (h : p.length < 4) : bof L (p ++ [x]) = (bof L p).setPool p.length x := by
  match p, h with
  | [], _ => rfl
  | [a], _ => rfl
  | [a, b], _ => rfl
  | [a, b, c], _ => rfl
def Rd2 (w : World) (bk r : Nat) (S : RS) (ao : Option Addr) (c : Nat) (la : Option Addr) (cap : Nat) (L : List Int) (i : Value) (W : World) : Prop :=
  ∃ (k : Nat) (fp : Option Addr), k ≤ 4 ∧ i = .int .i64 k ∧ RdSit w W bk r (uN k S).2 ao c fp la cap (bof L (uN k S).1)
def Rd1 (w : World) (bk r : Nat) (S : RS) (ao : Option Addr) (c n : Nat) (i : Value) (W : World) : Prop :=
  ∃ (k : Nat) (fp la : Option Addr) (cap : Nat), k ≤ n ∧ i = .int .i64 k ∧ RdSit w W bk r (uN k S).2 ao c fp la cap ⟨(uN k S).1, 0, 0, 0, 0⟩

set_option maxRecDepth 100000 in
set_option maxHeartbeats 4000000 in
theorem read_any (ao : Option Addr) (raw : List Int) (c : Nat) (w : World) (hl : Rb w ao raw) (bl : Bs raw) (nl : raw.length ≤ 140737488355328) :
    Calls Try.prog 29 #[.slice ao raw.length c] w fun e w' => ∃ la cap, e = .returned (.tuple #[.agg #[.slice la (readR raw).1.L.length cap, .int .u64 (readR raw).1.p0, .int .u64 (readR raw).1.p1, .int .u64 (readR raw).1.p2, .int .u64 (readR raw).1.p3], .agg #[.int .i64 (readR raw).2.1, .int .i64 (readR raw).2.2]]) ∧
      OwnW w' w.heap.size la cap (readR raw).1.L ∧ Below w.heap.size w w' := by
  have C1 := Lib.hid (fun W (h : Below w.heap.size w W) => newReader_any ao raw c W (hl.below h) bl nl)
  have h0 : (⟨raw, 0, none⟩ : RS).Ok := ⟨bl, Nat.zero_le _⟩
  have hn := nR_ok h0
  have HN := Lib.hid hn
  clear hl bl h0
  go_enter Try.func29, Try.ntmps29
  go_wp2_with fail
  refine (C1.out _ (((Below.refl _ _).alloc (Nat.le_refl _) _).alloc (by simp) _)).mono ?_
  obtain ⟨wX, hX⟩ : ∃ wX, (w.alloc (.cells #[.slice none 0 0, .int .u64 0, .int .u64 0, .int .u64 0, .int .u64 0] 26)).alloc (.cells #[.int .i64 0, .int .i64 0] 49) = wX := ⟨_, rfl⟩
  rw [hX]
  rintro e w1 ⟨r, ao', c', rfl, hrd, hb⟩
  have hsX : wX.heap.size = w.heap.size + 2 := by rw [← hX]; simp
  have HX := Lib.hid hX
  have HS := Lib.hid hsX
  have hs1 : w.heap.size + 2 ≤ w1.heap.size := by have := hb.size; omega
  have hsit := Lib.hid ((⟨hb.alloc hb.size _, hrd.step ((Below.refl _ _).alloc (Nat.le_refl _) _), hb.size, heap_at w1 _ rfl, own_none _ _⟩ : RdSit wX (w1.alloc (.cells #[.slice none 0 0, .int .u64 0, .int .u64 0, .int .u64 0, .int .u64 0] 26)) w1.heap.size r ⟨raw, 0, none⟩ ao' c' none none 0 ⟨[], 0, 0, 0, 0⟩))
  clear hb hrd hX hsX
  go_wp2_with fail
  refine (n_any hsit.out.rdr).mono ?_
  rintro e w2 ⟨rfl, ⟨fp2, hr2⟩, hg2⟩
  have hs2 := Lib.hid (hsit.out.read hr2 hg2)
  have HR : Hid (readB raw = (⟨(uN (nR ⟨raw, 0, none⟩).1.toNat (nR ⟨raw, 0, none⟩).2).1, (uN 4 (uN (nR ⟨raw, 0, none⟩).1.toNat (nR ⟨raw, 0, none⟩).2).2).1.getD 0 0, (uN 4 (uN (nR ⟨raw, 0, none⟩).1.toNat (nR ⟨raw, 0, none⟩).2).2).1.getD 1 0,
    (uN 4 (uN (nR ⟨raw, 0, none⟩).1.toNat (nR ⟨raw, 0, none⟩).2).2).1.getD 2 0, (uN 4 (uN (nR ⟨raw, 0, none⟩).1.toNat (nR ⟨raw, 0, none⟩).2).2).1.getD 3 0⟩, (uN 4 (uN (nR ⟨raw, 0, none⟩).1.toNat (nR ⟨raw, 0, none⟩).2).2).2)) := Lib.hid rfl
  clear hsit hr2 hg2 hn
  generalize nR ⟨raw, 0, none⟩ = N1 at *
  obtain ⟨z, S1⟩ := N1
  dsimp only at *
  obtain ⟨n, hz⟩ : ∃ n : Nat, z = n := ⟨z.toNat, by have := HN.out.2.1; omega⟩
  subst hz
  have hn64 : n ≤ 64 := by have := HN.out.2.2.1; omega
  have HOk := Lib.hid HN.out.1
  simp only [Int.toNat_natCast] at HR
  clear HN
  obtain ⟨bk, hbk⟩ : ∃ bk, bk = w1.heap.size := ⟨_, rfl⟩
  rw [← hbk] at hs2 ⊢
  clear hbk hs1 C1
  go_wp2_with fail
  go_loopw [12] (Rd1 wX bk r S1 ao' c' n) (fun i _ => n - (intOf i).toNat)
  case atStart => exact ⟨0, fp2, none, 0, Nat.zero_le _, rfl, hs2.out⟩
  case round =>
    clear hs2
    obtain ⟨k, fp, la, cap, hk, rfl, hsit⟩ := hrel
    have hlen := (uN_ok HOk.out k).2.2.1
    have hok := Lib.hid (uN_ok HOk.out k)
    by_cases hlt : k < n
    · have hnx : Hid (uN (k + 1) S1 = ((uN k S1).1 ++ [(uR (uN k S1).2).1], (uR (uN k S1).2).2)) := Lib.hid rfl
      generalize uN k S1 = A at *
      obtain ⟨l, S⟩ := A
      dsimp only at *
      have hll : l.length ≤ 64 := by omega
      have HLn := Lib.hid hlen
      clear hlen
      have HU := Lib.hid (fun W' (h : Below wr.heap.size wr W') => (u_any (hsit.step h).rdr).mono (fun _ w' hp => And.intro hp.1 (Exists.elim hp.2.1 fun fp' hr => (⟨fp', (hsit.step h).read hr hp.2.2⟩ : ∃ fp', RdSit wX w' bk r (uR S).2 ao' c' fp' la cap ⟨l, 0, 0, 0, 0⟩))))
      obtain ⟨x0, _, _, _, _, f0, _⟩ := five hsit.hb
      generalize uR S = U at *
      obtain ⟨x, S'⟩ := U
      dsimp only at *
      obtain ⟨i0, hi, hz0, hz1, hz2⟩ := info_parts Try.info23
      clear hsit
      go_wp2_with fail
      go_region_law
        (first | (go_simp; go_at_call 61; refine (HU.out _ (by exact (Below.refl _ _).drew)).mono ?_; rintro e' w3 ⟨rfl, fp', hs3⟩; obtain ⟨x0, _, _, _, _, f0, _⟩ := five hs3.hb; have x0a := (five ((heap_old w3 (.cells #[.int .u64 x] 23) (lt_of_block hs3.hb)).trans hs3.hb)).1; have HS3 := Lib.hid hs3; clear hs3) | (refine step_append_lies _ (by rfl) _ _ _ (by rfl) wX.heap.size 23 i0 (.int .u64 0) 1 8 Try.underlying22 hi hz0 hz1 hz2 rfl (by decide) (.slice la l.length cap) l.length (l.map (Value.int .u64)) (by rfl) (HS3.out.own.alloc _) ⟨w3.heap.size, 0, none⟩ 1 1 [.int .u64 x] (by rfl) (by rfl) (cell_one_new _ _ _) (by simp [Value.oneCell']) (by omega) (by simp only [maxLen]; omega) (by omega) (by have := HS3.out.below.size; simp; omega) (w3.heap.size + 1) (by simp) ?_; intro g cap' w4 hown4 hgrow4 hat4 hlt4; obtain ⟨y0, g0, hg4⟩ := HS3.out.far hgrow4; have HG4 := Lib.hid hg4; have HW4 := Lib.hid hown4; clear hgrow4 hat4 hlt4 hg4 hown4))
      all_goals
        go_wp2_with fail
        go_roundw
        case rel => exact ⟨k + 1, fp', some ⟨g, 0, none⟩, cap', by omega, by go_num, by rw [hnx.out]; have := HS3.out.app (own_snoc HW4.out) HG4.out; simpa using this⟩
        case measure => simp [intOf]; omega
    · obtain rfl : k = n := by omega
      have HA : Hid (readB raw = (bof (uN k S1).1 (uN 4 (uN k S1).2).1, (uN 4 (uN k S1).2).2)) := HR
      have hWs := Lib.hid hok.out.2.1
      have hlen' : (uN k S1).1.length ≤ 64 := by omega
      clear hlen
      have hOk2 := Lib.hid hok.out.1
      generalize uN k S1 = A at *
      obtain ⟨L, S2⟩ := A
      dsimp only at *
      clear hok HOk HR
      have HS2 := Lib.hid (show RdSit wX wr bk r S2 ao' c' fp la cap (bof L []) from hsit)
      clear hsit hlt
      go_wp2_with fail
      go_loopw [22] (Rd2 wX bk r S2 ao' c' la cap L) (fun i _ => 4 - (intOf i).toNat)
      case atStart => exact ⟨0, fp, by omega, rfl, HS2.out⟩
      case round =>
        clear HS2
        obtain ⟨j, fp, hj, rfl, hsit⟩ := hrel
        have hlj := (uN_ok hOk2.out j).2.2.1
        by_cases hlt : j < 4
        · have hnx : Hid (uN (j + 1) S2 = ((uN j S2).1 ++ [(uR (uN j S2).2).1], (uR (uN j S2).2).2)) := Lib.hid rfl
          generalize uN j S2 = A at *
          obtain ⟨p, S⟩ := A
          dsimp only at *
          have HLj := Lib.hid hlj
          clear hlj
          have HU := Lib.hid ((u_any hsit.rdr).mono (fun _ w' hp => And.intro hp.1 (Exists.elim hp.2.1 fun fp' hr => (⟨fp', hsit.read hr hp.2.2⟩ : ∃ fp', RdSit wX w' bk r (uR S).2 ao' c' fp' la cap (bof L p)))))
          generalize uR S = U at *
          obtain ⟨x, S'⟩ := U
          dsimp only at *
          clear hsit
          go_wp2_with fail
          refine HU.out.mono ?_
          rintro e w3 ⟨rfl, fp', hs3⟩
          obtain ⟨q1, q2⟩ := five_at hs3.hb hlt
          have HS3 := Lib.hid hs3
          clear hs3 HU
          go_wp2_with fail
          go_roundw
          case rel => exact ⟨j + 1, fp', by omega, by go_num, by rw [hnx.out]; simp only; rw [bof_snoc L p x (by rw [HLj.out]; exact hlt), HLj.out]; exact HS3.out.pool j hlt x⟩
          case measure => simp [intOf]; omega
        · obtain rfl : j = 4 := by omega
          have hWp := Lib.hid (uN_ok hOk2.out 4)
          have hok2 := hlen'
          generalize uN 4 S2 = A at *
          obtain ⟨p, S3⟩ := A
          dsimp only at *
          have HB : Hid ((bof L p).Wf) := Lib.hid (by
            have hp := hWp.out.2.1
            have hl := hWp.out.2.2.1
            exact ⟨hWs.out, hp.at (by omega), hp.at (by omega), hp.at (by omega), hp.at (by omega)⟩)
          have HE := Lib.hid (end_any hsit.rdr)
          have hLl := hsit.own.low
          have hR : readR raw = if (endR S3).1 ≠ 0 then (B0, endR S3) else if (bof L p).chk ≠ 0 then (B0, 12, 0) else (bof L p, 0, 0) := by unfold readR; rw [HA.out]
          have hLn : Hid ((bof L p).L.length ≤ 64) := Lib.hid (by have := hok2; exact this)
          generalize bof L p = B at *
          generalize endR S3 = E at *
          obtain ⟨er, ea⟩ := E
          dsimp only at *
          have hXX := HX.out
          have k2 : wr.heap[w.heap.size]? = some (.cells #[.slice none 0 0, .int .u64 0, .int .u64 0, .int .u64 0, .int .u64 0] 26 (0, 0)) :=
            (hsit.below.block _ (by rw [HS.out]; omega)).trans (by rw [← hXX]; exact (heap_old _ _ (by simp)).trans (heap_at w _ rfl))
          have k3 : wr.heap[w.heap.size + 1]? = some (.cells #[.int .i64 0, .int .i64 0] 49 (0, 0)) :=
            (hsit.below.block _ (by rw [HS.out]; omega)).trans (by rw [← hXX]; exact heap_at (w.alloc _) _ (by simp))
          have kX : Hid (Below w.heap.size w wX) := Lib.hid (by rw [← hXX]; exact ((Below.refl _ _).alloc (Nat.le_refl _) _).alloc (by simp) _)
          have hbk := hsit.lo
          have hsX := HS.out
          have hlw := hsit.below.size
          have HT := Lib.hid hsit
          have HR := Lib.hid hR
          clear hXX HX hsit hR hOk2 HA hWp
          obtain ⟨b2, hb2⟩ : ∃ b2, w.heap.size = b2 := ⟨_, rfl⟩
          have HB2 := Lib.hid hb2
          rw [hb2] at k2 k3 hsX ⊢
          clear hb2
          go_wp2_with fail
          refine HE.out.mono ?_
          rintro e w3 ⟨rfl, hb⟩
          have hT3 := HT.out.step hb
          have k2' := (hb.block b2 (lt_of_block k2)).trans k2
          have k3' := (hb.block (b2 + 1) (lt_of_block k3)).trans k3
          have hz3 := hb.size
          have l2 := lt_of_block k2'
          have l3 := lt_of_block k3'
          have l4 := lt_of_block hT3.hb
          have HT3 := Lib.hid hT3
          have K2 := Lib.hid k2'
          have K3 := Lib.hid k3'
          clear hT3 hb k2 k3 HT HE k2' k3'
          have HW3 : Hid (Below b2 w w3) := Lib.hid (by rw [← HB2.out]; exact kX.out.trans (HT3.out.below.mono (by rw [HS.out]; omega)))
          by_cases her : er = 0
          · subst her
            have hq : ((0 : Int) == 0) = true := rfl
            obtain ⟨x0, x1, x2, x3, x4, _⟩ := five HT3.out.hb
            have C2 := Lib.hid (fun W' (h : Below w3.heap.size w3 W') => check_any la B cap W' (HT3.out.own.rd.below h) HB.out (by have := hLn.out; omega))
            go_wp2_with fail
            refine (C2.out _ ((Below.refl _ _).alloc (Nat.le_refl _) _)).mono ?_
            rintro e w4 ⟨rfl, hb⟩
            have hb4 : Below w3.heap.size w3 w4 := ((Below.refl _ _).alloc (Nat.le_refl _) _).trans (hb.mono (by simp))
            have hT4 := HT3.out.step hb4
            obtain ⟨c0, c1, c2, c3, c4, d0, d1, d2, d3, d4⟩ := five ((hb4.block b2 l2).trans K2.out)
            obtain ⟨e0, e1, g0, g1⟩ := two ((hb4.block (b2 + 1) l3).trans K3.out)
            clear x0 x1 x2 x3 x4
            obtain ⟨x0, x1, x2, x3, x4, _⟩ := five hT4.hb
            have HT4 := Lib.hid hT4
            have HW4 : Hid (Below b2 w w4) := Lib.hid (HW3.out.trans (hb4.mono (by omega)))
            have hneb : bk ≠ b2 := by omega
            have hneb' : bk ≠ b2 + 1 := by omega
            clear hb hb4 hT4 C2
            by_cases hc : B.chk = 0
            · have hq2 : (B.chk == 0) = true := by rw [hc]; rfl
              have hq2' : (B.chk != 0) = false := by rw [hc]; rfl
              have HV : Hid (readR raw = (B, 0, 0)) := Lib.hid (by rw [HR.out, if_neg (by simp), if_neg (by simp [hc])])
              generalize B.chk = ch at *
              clear hc
              go_wp2_with fail
              refine bodyPost_ret (v := .tuple #[.agg #[.slice la B.L.length cap, .int .u64 B.p0, .int .u64 B.p1, .int .u64 B.p2, .int .u64 B.p3], .agg #[.int .i64 0, .int .i64 0]]) (by simp [results, Try.results29, go_sem, c0, c1, c2, c3, c4, e0, e1]) rfl ?_
              rw [HV.out, HB2.out]
              have hnb : ∀ p, la = some p → p.block ≠ b2 ∧ p.block ≠ b2 + 1 := fun p hp => by have := hLl p hp; omega
              exact ⟨la, cap, rfl, (((HT4.out.own.mono (by omega)).set5 (fun p hp => (hnb p hp).1) _ _ _ _ _).setCell (a := ⟨b2 + 1, 0, none⟩) (fun p hp => (hnb p hp).2) _).setCell (a := ⟨b2 + 1, 1, none⟩) (fun p hp => (hnb p hp).2) _,
                ((below_set5 HW4.out (Nat.le_refl _) _ _ _ _ _).setCell (p := ⟨b2 + 1, 0, none⟩) (by simp) _).setCell (p := ⟨b2 + 1, 1, none⟩) (by simp) _⟩
            · have hq2 : (B.chk == 0) = false := by rw [beq_eq_false_iff_ne]; exact hc
              have hq2' : (B.chk != 0) = true := by simpa using hc
              have HV : Hid (readR raw = (B0, 12, 0)) := Lib.hid (by rw [HR.out, if_neg (by simp), if_pos hc])
              generalize B.chk = ch at *
              clear hc
              go_wp2_with fail
              refine bodyPost_ret (v := .tuple #[.agg #[.slice none 0 0, .int .u64 0, .int .u64 0, .int .u64 0, .int .u64 0], .agg #[.int .i64 12, .int .i64 0]]) (by simp [results, Try.results29, go_sem, c0, c1, c2, c3, c4, e0, e1]) rfl ?_
              rw [HV.out, HB2.out]
              exact ⟨none, 0, rfl, own_none _ _, ((below_set5 HW4.out (Nat.le_refl _) _ _ _ _ _).setCell (p := ⟨b2 + 1, 0, none⟩) (by simp) _).setCell (p := ⟨b2 + 1, 1, none⟩) (by simp) _⟩
          · have hq : (er == 0) = false := by rw [beq_eq_false_iff_ne]; exact her
            have hq' : (er != 0) = true := by simpa using her
            have HV : Hid (readR raw = (B0, er, ea)) := Lib.hid (by rw [HR.out, if_pos her])
            obtain ⟨c0, c1, c2, c3, c4, d0, d1, d2, d3, d4⟩ := five K2.out
            obtain ⟨e0, e1, g0, g1⟩ := two K3.out
            clear her
            go_wp2_with fail
            go_region
            go_wp2_with fail
            refine bodyPost_ret (v := .tuple #[.agg #[.slice none 0 0, .int .u64 0, .int .u64 0, .int .u64 0, .int .u64 0], .agg #[.int .i64 er, .int .i64 ea]]) (by simp [results, Try.results29, go_sem, c0, c1, c2, c3, c4, e0, e1, l2, l3, World.cell?_alloc_past]) rfl ?_
            rw [HV.out, HB2.out]
            exact ⟨none, 0, rfl, own_none _ _, ((((below_set5 HW3.out (Nat.le_refl _) _ _ _ _ _).setCell (p := ⟨b2 + 1, 0, none⟩) (by simp) _).setCell (p := ⟨b2 + 1, 1, none⟩) (by simp) _).alloc (by simp [World.setCell]; omega) _).drew⟩
end Go.Proofs.Ytjiffflhedekfaa
end
