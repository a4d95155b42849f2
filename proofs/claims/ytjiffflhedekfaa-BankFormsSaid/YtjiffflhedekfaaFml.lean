/- Plain laws of forms: a number's bytes are read as it, what is read is written as its bytes; and so a bank's. -/
import Derived.Test.YtjiffflhedekfaaRdM
import Derived.Test.YtjiffflhedekfaaBts
import Derived.Test.YtjiffflhedekfaaBmp
namespace Go.Proofs.Ytjiffflhedekfaa
open Go.RowKit

theorem glue (m n P : Int) : m + n % 128 * P + n / 128 * (P * 128) = m + n * P := by
  have h : n = n / 128 * 128 + n % 128 := by omega
  conv => rhs; rw [h]
  rw [Int.add_mul, Int.mul_assoc (n / 128) 128 P, Int.mul_comm 128 P]
  omega
theorem pow_down {n : Int} {f : Nat} (h : n < 2 * 128 ^ (f + 1)) : n / 128 < 2 * 128 ^ f := by
  rw [Int.pow_succ] at h
  generalize (128 : Int) ^ f = P at *
  omega
theorem numF_put (f : Nat) : ∀ (i : Nat) (m n : Int) (rest : List Int), i + f = 9 → 0 ≤ n → n < 2 * 128 ^ f → (0 < i → n ≠ 0) → numF i m (putF f n ++ rest) = (m + n * 128 ^ i, ((i + (putF f n).length : Nat) : Int), 0) := by
  induction f with
  | zero =>
    intro i m n rest hi h0 h1 hn
    simp only [Int.pow_zero] at h1
    simp only [putF, List.cons_append, List.nil_append, numF, List.length_cons, List.length_nil]
    rw [if_neg (fun hh => hh.elim (fun h => by omega) (fun h => hn h.1 h.2)), if_pos (by omega), show n % 128 = n by omega]
    simp
  | succ f ih =>
    intro i m n rest hi h0 h1 hn
    rw [putF]
    by_cases h : 128 ≤ n
    · rw [if_pos h, List.cons_append, numF, if_neg (by omega), if_neg (by omega), ih (i + 1) _ (n / 128) rest (by omega) (by omega) (pow_down h1) (by omega)]
      rw [show (n % 128 + 128) % 128 = n % 128 by omega, Int.pow_succ, glue]
      simp only [List.length_cons, Prod.mk.injEq, and_true, true_and]
      omega
    · rw [if_neg h]
      simp only [List.cons_append, List.nil_append, numF, List.length_cons, List.length_nil]
      rw [if_neg (fun hh => hh.elim (fun h => by omega) (fun h => hn h.1 h.2)), if_pos (by omega), show n % 128 = n by omega]
      simp
theorem numR_put {n : Int} (hn : W64 n) (rest : List Int) : numR (putL n ++ rest) = (n, ((putL n).length : Int), 0) := by
  have h := numF_put 9 0 0 n rest rfl hn.1 (by have := hn.2; omega) (by omega)
  simpa [numR, putL] using h
theorem numF_back (l : List Int) (bl : Bs l) : ∀ (i : Nat) (m v j : Int), i ≤ 9 → numF i m l = (v, j, 0) →
    ∃ (n : Int) (rest : List Int), 0 ≤ n ∧ (0 < i → n ≠ 0) ∧ l = putF (9 - i) n ++ rest ∧ v = m + n * 128 ^ i ∧ j = ((i + (putF (9 - i) n).length : Nat) : Int) := by
  induction l with
  | nil => intro i m v j _ h; simp [numF] at h
  | cons c l ih =>
    intro i m v j hi h
    have hc := bl c (List.mem_cons_self ..)
    rw [numF] at h
    by_cases c1 : i = 9 ∧ 1 < c ∨ 0 < i ∧ c = 0
    · rw [if_pos c1] at h; simp at h
    rw [if_neg c1] at h
    by_cases c2 : c < 128
    · rw [if_pos c2] at h
      simp only [Prod.mk.injEq, and_true] at h
      obtain ⟨rfl, rfl⟩ := h
      have hp : putF (9 - i) c = [c] := by
        cases hk : 9 - i with
        | zero => rfl
        | succ f => rw [putF, if_neg (by omega)]
      refine ⟨c, l, hc.1, fun h0 h1 => c1 (Or.inr ⟨h0, h1⟩), by rw [hp]; rfl, by rw [show c % 128 = c by have := hc.1; omega], by rw [hp]; simp⟩
    · rw [if_neg c2] at h
      have h8 : i ≤ 8 := by omega
      obtain ⟨n, rest, h0, hn, hl, hv, hj⟩ := ih (fun x hx => bl x (List.mem_cons_of_mem _ hx)) (i + 1) _ v j (by omega) h
      have hn0 := hn (by omega)
      obtain ⟨f, hf⟩ : ∃ f, 9 - i = f + 1 := ⟨8 - i, by omega⟩
      have hf' : 9 - (i + 1) = f := by omega
      have hc0 := hc.1
      have hc1 := hc.2
      have e1 : (c % 128 + n * 128) % 128 + 128 = c := by omega
      have e2 : (c % 128 + n * 128) / 128 = n := by omega
      have hp : putF (9 - i) (c % 128 + n * 128) = c :: putF f n := by rw [hf, putF, if_pos (by omega), e1, e2]
      rw [hf'] at hl hj
      refine ⟨c % 128 + n * 128, rest, by omega, fun _ => by omega, by rw [hp, hl]; rfl, ?_, by rw [hp, hj]; simp only [List.length_cons]; omega⟩
      rw [hv, Int.pow_succ, Int.add_mul, Int.mul_assoc n 128, Int.mul_comm 128]
      omega
theorem numR_back {l : List Int} (bl : Bs l) (h : (numR l).2.2 = 0) : ∃ rest, l = putL (numR l).1 ++ rest ∧ (numR l).2.1 = ((putL (numR l).1).length : Int) := by
  obtain ⟨n, rest, h0, _, hl, hv, hj⟩ := numF_back l bl 0 0 (numR l).1 (numR l).2.1 (by omega) (Prod.ext rfl (Prod.ext rfl h))
  have e : (numR l).1 = n := by simpa using hv
  rw [e]
  refine ⟨rest, hl, ?_⟩
  rw [hj]
  simp [putL]

theorem drop_put {L p rest : List Int} {a : Nat} (h : L.drop a = p ++ rest) : L.drop (a + p.length) = rest := by
  rw [← List.drop_drop, h, List.drop_left]
theorem uR_put {S : RS} {n : Int} {rest : List Int} (hn : W64 n) (hf : S.ft = none) (h : S.L.drop S.at_ = putL n ++ rest) : uR S = (n, { S with at_ := S.at_ + (putL n).length }) := by
  unfold uR
  rw [if_neg (by simp [hf]), h, numR_put hn, if_neg (by simp)]
  simp
theorem uN_put {S : RS} {l : List Int} {rest : List Int} (hl : Ws l) (hf : S.ft = none) (h : S.L.drop S.at_ = putA l ++ rest) (k : Nat) (hk : k ≤ l.length) : uN k S = (l.take k, { S with at_ := S.at_ + (putA (l.take k)).length }) := by
  induction k with
  | zero => simp [uN, putA]
  | succ k ih =>
    have hi := ih (by omega)
    have hp : putA l = putA (l.take k) ++ (putL (l.getD k 0) ++ putA (l.drop (k + 1))) := by
      rw [← List.append_assoc, ← putA_take l k (by omega), ← putA_append, List.take_append_drop]
    have hd : S.L.drop (S.at_ + (putA (l.take k)).length) = putL (l.getD k 0) ++ (putA (l.drop (k + 1)) ++ rest) := drop_put (p := putA (l.take k)) (by rw [h, hp]; simp [List.append_assoc])
    have hu := uR_put (S := { S with at_ := S.at_ + (putA (l.take k)).length }) (n := l.getD k 0) (hl.at (by omega)) hf hd
    rw [uN, hi]
    simp only [hu, Prod.mk.injEq]
    refine ⟨?_, ?_⟩
    · rw [List.take_succ_eq_append_getElem (by omega), getD_at (by omega)]
    · rw [putA_take l k (by omega), List.length_append, Nat.add_assoc]
theorem nR_put {S : RS} {n : Int} {rest : List Int} (h1 : 1 ≤ n) (h64 : n ≤ 64) (hf : S.ft = none) (h : S.L.drop S.at_ = putL n ++ rest) : nR S = (n, { S with at_ := S.at_ + (putL n).length }) := by
  unfold nR numE
  rw [if_neg (by simp [hf]), h, numR_put ⟨by omega, by omega⟩]
  simp only [ne_eq, not_true_eq_false, if_false]
  rw [if_neg (by omega)]
  simp
theorem read_bytes {B : Bk} (hw : B.Wf) (hc : B.chk = 0) : readR (bytesL B) = (B, 0, 0) := by
  have ht := chk_tot hc
  have hn := nR_put (S := ⟨bytesL B, 0, none⟩) (n := B.L.length) (rest := putA B.all) (by omega) (by omega) rfl (by simp [bytesL])
  have h1 : (bytesL B).drop (putL B.L.length).length = putA B.L ++ putA [B.p0, B.p1, B.p2, B.p3] := by
    rw [bytesL, List.drop_left, ← putA_append]; rfl
  have ha := uN_put (S := ⟨bytesL B, (putL B.L.length).length, none⟩) hw.L rfl h1 B.L.length (Nat.le_refl _)
  rw [List.take_length] at ha
  have h2 := drop_put h1
  have hp := uN_put (S := ⟨bytesL B, (putL B.L.length).length + (putA B.L).length, none⟩) (l := [B.p0, B.p1, B.p2, B.p3]) (rest := []) hw.pools rfl (by simpa using h2) 4 (by simp)
  have hb : readB (bytesL B) = (B, ⟨bytesL B, (bytesL B).length, none⟩) := by
    unfold readB
    simp only [hn, Int.toNat_natCast, Nat.zero_add]
    rw [ha]
    simp only []
    rw [hp]
    simp only [List.take_succ_cons, List.take_zero, Prod.mk.injEq]
    refine ⟨by simp, ?_⟩
    have e : (bytesL B).length = (putL B.L.length).length + (putA B.L).length + (putA [B.p0, B.p1, B.p2, B.p3]).length := by
      rw [bytesL, Bk.all, putA_append]; simp [List.length_append, Nat.add_assoc]
    rw [e]
  unfold readR
  rw [hb]
  simp [endR, hc]

/-- A reader's fault is a fault. -/
def RS.Ft (S : RS) : Prop := ∀ e a, S.ft = some (e, a) → e ≠ 0
theorem uR_ft {S : RS} (h : S.Ft) : (uR S).2.Ft := by
  unfold uR
  split
  · exact h
  · split
    · rename_i h2
      intro e a he
      simp only [Option.some.injEq, Prod.mk.injEq] at he
      rw [← he.1]; exact h2
    · exact h
theorem nR_ft {S : RS} (h : S.Ft) : (nR S).2.Ft := by
  unfold nR
  split
  · exact h
  · split
    · rename_i h2
      intro e a he
      simp only [Option.some.injEq, Prod.mk.injEq] at he
      rw [← he.1]; exact h2
    · exact h
theorem uN_ft {S : RS} (h : S.Ft) (k : Nat) : (uN k S).2.Ft := by
  induction k with
  | zero => exact h
  | succ k ih => exact uR_ft ih
theorem uR_back {S : RS} (hs : S.Ok) (h : (uR S).2.ft = none) : S.ft = none ∧ S.L.drop S.at_ = putL (uR S).1 ++ S.L.drop (uR S).2.at_ := by
  unfold uR at h ⊢
  by_cases h1 : S.ft ≠ none
  · rw [if_pos h1] at h; exact absurd h h1
  rw [if_neg h1] at h ⊢
  by_cases h2 : (numR (S.L.drop S.at_)).2.2 ≠ 0
  · rw [if_pos h2] at h; cases h
  rw [if_neg h2] at h ⊢
  refine ⟨Decidable.not_not.1 h1, ?_⟩
  obtain ⟨rest, hl, hj⟩ := numR_back (hs.1.drop S.at_) (Decidable.not_not.1 h2)
  have hd := drop_put hl
  simp only
  rw [hj, Int.toNat_natCast, hd]
  exact hl
theorem nR_back {S : RS} (hs : S.Ok) (h : (nR S).2.ft = none) : S.ft = none ∧ S.L.drop S.at_ = putL (nR S).1 ++ S.L.drop (nR S).2.at_ := by
  unfold nR at h ⊢
  by_cases h1 : S.ft ≠ none
  · rw [if_pos h1] at h; exact absurd h h1
  rw [if_neg h1] at h ⊢
  by_cases h2 : numE (numR (S.L.drop S.at_)) ≠ 0
  · rw [if_pos h2] at h; cases h
  rw [if_neg h2] at h ⊢
  refine ⟨Decidable.not_not.1 h1, ?_⟩
  have h3 : (numR (S.L.drop S.at_)).2.2 = 0 := by
    have := Decidable.not_not.1 h2
    unfold numE at this
    by_cases g : (numR (S.L.drop S.at_)).2.2 = 0
    · exact g
    · rw [if_pos g] at this; exact this
  obtain ⟨rest, hl, hj⟩ := numR_back (hs.1.drop S.at_) h3
  have hd := drop_put hl
  simp only
  rw [hj, Int.toNat_natCast, hd]
  exact hl
theorem uN_back {S : RS} (hs : S.Ok) (k : Nat) (h : (uN k S).2.ft = none) : S.ft = none ∧ S.L.drop S.at_ = putA (uN k S).1 ++ S.L.drop (uN k S).2.at_ := by
  induction k with
  | zero => exact ⟨h, by simp [uN, putA]⟩
  | succ k ih =>
    have hk := uN_ok hs k
    have h1 := uR_back hk.1 h
    have h2 := ih h1.1
    refine ⟨h2.1, ?_⟩
    rw [h2.2]
    have h3 := h1.2
    rw [hk.2.2.2] at h3
    rw [h3, uN, putA_append]
    simp [putA]
theorem endR_open {S : RS} (hf : S.ft = none) (h : S.at_ < S.L.length) : (endR S).1 = 4 := by
  unfold endR
  rw [hf]
  simp [h]
theorem bytes_read {raw : List Int} (bl : Bs raw) (h : (readR raw).2.1 = 0) : (readR raw).1.Wf ∧ (readR raw).1.chk = 0 ∧ bytesL (readR raw).1 = raw := by
  have hE : (endR (readB raw).2).1 = 0 := by
    unfold readR at h
    by_cases g : (endR (readB raw).2).1 ≠ 0
    · rw [if_pos g] at h; exact h
    · exact Decidable.not_not.1 g
  have hC : (readB raw).1.chk = 0 := by
    unfold readR at h
    rw [if_neg (by simpa using hE)] at h
    by_cases g : (readB raw).1.chk ≠ 0
    · rw [if_pos g] at h; simp at h
    · exact Decidable.not_not.1 g
  have hR : (readR raw).1 = (readB raw).1 := by
    unfold readR
    rw [if_neg (by simpa using hE), if_neg (by simpa using hC)]
  rw [hR]
  have h0 : (⟨raw, 0, none⟩ : RS).Ok := ⟨bl, Nat.zero_le _⟩
  have hf0 : (⟨raw, 0, none⟩ : RS).Ft := fun e a he => by simp at he
  have k1 := nR_ok h0
  have k2 := uN_ok k1.1 (nR ⟨raw, 0, none⟩).1.toNat
  have k3 := uN_ok k2.1 4
  have f3 := uN_ft (uN_ft (nR_ft hf0) (nR ⟨raw, 0, none⟩).1.toNat) 4
  have n3 : (uN 4 (uN (nR ⟨raw, 0, none⟩).1.toNat (nR ⟨raw, 0, none⟩).2).2).2.ft = none := by
    cases hft : (uN 4 (uN (nR ⟨raw, 0, none⟩).1.toNat (nR ⟨raw, 0, none⟩).2).2).2.ft with
    | none => rfl
    | some p =>
      obtain ⟨e, a⟩ := p
      have he : (endR (readB raw).2).1 = e := by simp only [readB, endR, hft]
      exact absurd (he.symm.trans hE) (f3 e a hft)
  have b3 := uN_back k2.1 4 n3
  have b2 := uN_back k1.1 _ b3.1
  have b1 := nR_back h0 b2.1
  have hend : ¬ (uN 4 (uN (nR ⟨raw, 0, none⟩).1.toNat (nR ⟨raw, 0, none⟩).2).2).2.at_ < raw.length := by
    intro hlt
    have : (endR (readB raw).2).1 = 4 := endR_open n3 (by
      show _ < (uN 4 (uN (nR ⟨raw, 0, none⟩).1.toNat (nR ⟨raw, 0, none⟩).2).2).2.L.length
      rw [k3.2.2.2, k2.2.2.2, k1.2.2.2]
      exact hlt)
    rw [hE] at this; cases this
  have e1 := b1.2
  have e2 := b2.2
  have e3 := b3.2
  rw [k1.2.2.2] at e2
  rw [k2.2.2.2, k1.2.2.2] at e3
  simp only [List.drop_zero] at e1 e2 e3
  have hlen := k2.2.2.1
  have hlen4 := k3.2.2.1
  have hws := k2.2.1
  have hws4 := k3.2.1
  have hrb : (readB raw).1 = ⟨(uN (nR ⟨raw, 0, none⟩).1.toNat (nR ⟨raw, 0, none⟩).2).1, (uN 4 (uN (nR ⟨raw, 0, none⟩).1.toNat (nR ⟨raw, 0, none⟩).2).2).1.getD 0 0, (uN 4 (uN (nR ⟨raw, 0, none⟩).1.toNat (nR ⟨raw, 0, none⟩).2).2).1.getD 1 0, (uN 4 (uN (nR ⟨raw, 0, none⟩).1.toNat (nR ⟨raw, 0, none⟩).2).2).1.getD 2 0, (uN 4 (uN (nR ⟨raw, 0, none⟩).1.toNat (nR ⟨raw, 0, none⟩).2).2).1.getD 3 0⟩ := rfl
  have hN := k1.2.1
  generalize (nR ⟨raw, 0, none⟩).1 = N at *
  generalize (uN N.toNat (nR ⟨raw, 0, none⟩).2).1 = M at *
  generalize (uN 4 (uN N.toNat (nR ⟨raw, 0, none⟩).2).2).1 = P at *
  generalize (uN 4 (uN N.toNat (nR ⟨raw, 0, none⟩).2).2).2.at_ = a3 at *
  have hz : raw.drop a3 = [] := List.drop_eq_nil_of_le (by omega)
  rw [hz, List.append_nil] at e3
  match P, hlen4 with
  | [q0, q1, q2, q3], _ =>
    refine ⟨?_, hC, ?_⟩
    · rw [hrb]
      exact ⟨hws, hws4 _ (by simp), hws4 _ (by simp), hws4 _ (by simp), hws4 _ (by simp)⟩
    · rw [hrb, bytesL]
      simp only [Bk.all, List.getD_cons_zero, List.getD_cons_succ]
      rw [putA_append, hlen, Int.toNat_of_nonneg hN, ← e3, ← e2, ← e1]
end Go.Proofs.Ytjiffflhedekfaa
