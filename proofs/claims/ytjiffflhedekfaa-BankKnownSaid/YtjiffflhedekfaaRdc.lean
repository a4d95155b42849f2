/- bank.Read: the walk. -/
import Derived.Test.YtjiffflhedekfaaRdb
import Derived.Deep.RegionHeld3
import Derived.Deep.RegionLaw
import Derived.Deep.AppendLies
import Derived.Maps.AppendAt
namespace Go.Proofs.Ytjiffflhedekfaa
open Go.RowKit

theorem RdSit.app {w W W' : World} {bk r : Nat} {S : RS} {ao : Option Addr} {c : Nat} {fp la : Option Addr} {cap : Nat} {B : Bk} (h : RdSit w W bk r S ao c fp la cap B) {g cap' : Nat} {l : List Int}
    (hown : OwnW W' w.heap.size (some ⟨g, 0, none⟩) cap' l) (hgrow : W.grownBy W' (la.map (·.block))) :
    RdSit w (W'.setCell ⟨bk, 0, none⟩ (.slice (some ⟨g, 0, none⟩) l.length cap')) bk r S ao c fp (some ⟨g, 0, none⟩) cap' { B with L := l } := by
  have hty : ∀ q, la.map (·.block) = some q → ∃ cs m, W.heap[q]? = some (.cells cs 23 m) := fun q hq => by
    cases hl : la with
    | none => rw [hl] at hq; cases hq
    | some p => rw [hl] at hq; simp at hq; subst hq; exact h.own.typed p hl
  have hlow : ∀ q, la.map (·.block) = some q → w.heap.size ≤ q := fun q hq => by
    cases hl : la with
    | none => rw [hl] at hq; cases hq
    | some p => rw [hl] at hq; simp at hq; subst hq; exact h.own.low p hl
  have hb' : W'.heap[bk]? = some (.cells #[.slice la B.L.length cap, .int .u64 B.p0, .int .u64 B.p1, .int .u64 B.p2, .int .u64 B.p3] 26 (0, 0)) :=
    (hgrow.block _ (lt_of_block h.hb) (fun e => by obtain ⟨cs, m, hm⟩ := hty _ e.symm; exact ne_of_types h.hb hm (by decide) rfl)).trans h.hb
  have hr' : Rdr W' w.heap.size r S ao c fp := h.rdr.grown hgrow (fun q hq => by obtain ⟨cs, m, hm⟩ := hty q hq; exact ⟨cs, 23, m, hm, by decide, by decide, by decide⟩)
  have hset : W'.grownBy (W'.setCell ⟨bk, 0, none⟩ (.slice (some ⟨g, 0, none⟩) l.length cap')) (some bk) := grown_set _
  have hlo := h.lo
  have hsz := hgrow.size
  refine ⟨(h.below.grown hgrow h.below.size hlow).grown hset (by have := h.below.size; omega) (fun k e => by cases e; exact hlo), hr'.grown hset (fun q hq => by cases hq; exact ⟨_, _, _, hb', by decide, by decide, by decide⟩), hlo, ?_, hown.grown hset (fun q hq => by cases hq; exact ⟨_, _, _, hb', by decide⟩)⟩
  simp [World.setCell, Array.getElem?_modify, hb']

theorem own_block' (la : Option Addr) (n c : Nat) : (Value.slice la n c).ownBlock = la.map (·.block) := by cases la <;> simp [Value.ownBlock]
theorem RdSit.far {w W W' : World} {bk r : Nat} {S : RS} {ao : Option Addr} {c : Nat} {fp la : Option Addr} {cap : Nat} {B : Bk} (h : RdSit w W bk r S ao c fp la cap B) {o : Obj} {n cp : Nat} (hgrow : (W.alloc o).grownBy W' (Value.slice la n cp).ownBlock) :
    W'.cell? ⟨bk, 0, none⟩ = some (.slice la B.L.length cap) ∧ W'.frozen? ⟨bk, 0, none⟩ = false ∧ W.grownBy W' (la.map (·.block)) := by
  rw [own_block'] at hgrow
  have hg : W.grownBy W' (la.map (·.block)) := grown_trans (World.grownBy_alloc W o _) hgrow
  have hty : ∀ q, la.map (·.block) = some q → ∃ cs m, W.heap[q]? = some (.cells cs 23 m) := fun q hq => by
    cases hl : la with
    | none => rw [hl] at hq; cases hq
    | some p => rw [hl] at hq; simp at hq; subst hq; exact h.own.typed p hl
  have hb' : W'.heap[bk]? = some (.cells #[.slice la B.L.length cap, .int .u64 B.p0, .int .u64 B.p1, .int .u64 B.p2, .int .u64 B.p3] 26 (0, 0)) :=
    (hg.block _ (lt_of_block h.hb) (fun e => by obtain ⟨cs, m, hm⟩ := hty _ e.symm; exact ne_of_types h.hb hm (by decide) rfl)).trans h.hb
  obtain ⟨x0, _, _, _, _, f0, _⟩ := five hb'
  exact ⟨x0, f0, hg⟩

theorem own_snoc {w : World} {base g cap : Nat} {l : List Int} {x : Int} (h : w.ownsRow base 23 1 (.slice (some ⟨g, 0, none⟩) (l.length + 1) cap) (l.length + 1) (l.map (Value.int .u64) ++ [.int .u64 x])) : OwnW w base (some ⟨g, 0, none⟩) cap (l ++ [x]) := by
  unfold OwnW; simpa using h
theorem RdSit.pool {w W : World} {bk r : Nat} {S : RS} {ao : Option Addr} {c : Nat} {fp la : Option Addr} {cap : Nat} {B : Bk} (h : RdSit w W bk r S ao c fp la cap B) (k : Nat) (hk : k < 4) (x : Int) :
    RdSit w (W.setCell ⟨bk, 1 + k, none⟩ (.int .u64 x)) bk r S ao c fp la cap (B.setPool k x) := by
  have hset : W.grownBy (W.setCell ⟨bk, 1 + k, none⟩ (.int .u64 x)) (some bk) := grown_set _
  have hlo := h.lo
  have hbk := h.hb
  refine ⟨h.below.grown hset h.below.size (fun k e => by cases e; exact hlo), h.rdr.grown hset (fun q hq => by cases hq; exact ⟨_, _, _, hbk, by decide, by decide, by decide⟩), hlo, ?_, by rw [setPool_L]; exact h.own.grown hset (fun q hq => by cases hq; exact ⟨_, _, _, hbk, by decide⟩)⟩
  rw [setPool_L]
  match k, hk with
  | 0, _ => simp [World.setCell, Array.getElem?_modify, hbk, Bk.setPool]
  | 1, _ => simp [World.setCell, Array.getElem?_modify, hbk, Bk.setPool]
  | 2, _ => simp [World.setCell, Array.getElem?_modify, hbk, Bk.setPool]
  | 3, _ => simp [World.setCell, Array.getElem?_modify, hbk, Bk.setPool]
def bof (L p : List Int) : Bk := ⟨L, p.getD 0 0, p.getD 1 0, p.getD 2 0, p.getD 3 0⟩
theorem bof_snoc (L p : List Int) (x : Int) (h : p.length < 4) : bof L (p ++ [x]) = (bof L p).setPool p.length x := by
  match p, h with
  | [], _ => rfl
  | [a], _ => rfl
  | [a, b], _ => rfl
  | [a, b, c], _ => rfl
def Rd2 (w : World) (bk r : Nat) (S : RS) (ao : Option Addr) (c : Nat) (la : Option Addr) (cap : Nat) (L : List Int) (i : Value) (W : World) : Prop :=
  ∃ (k : Nat) (fp : Option Addr), k ≤ 4 ∧ i = .int .i64 k ∧ RdSit w W bk r (uN k S).2 ao c fp la cap (bof L (uN k S).1)
def Rd1 (w : World) (bk r : Nat) (S : RS) (ao : Option Addr) (c n : Nat) (i : Value) (W : World) : Prop :=
  ∃ (k : Nat) (fp la : Option Addr) (cap : Nat), k ≤ n ∧ i = .int .i64 k ∧ RdSit w W bk r (uN k S).2 ao c fp la cap ⟨(uN k S).1, 0, 0, 0, 0⟩

set_option maxRecDepth 100000 in
set_option maxHeartbeats 4000000 in
theorem read_any (ao : Option Addr) (raw : List Int) (c : Nat) (w : World) (hl : Rb w ao raw) (bl : Bs raw) (nl : raw.length ≤ 140737488355328) :
    Calls Try.prog 29 #[.slice ao raw.length c] w fun e w' => ∃ la cap, e = .returned (.tuple #[.agg #[.slice la (readR raw).1.L.length cap, .int .u64 (readR raw).1.p0, .int .u64 (readR raw).1.p1, .int .u64 (readR raw).1.p2, .int .u64 (readR raw).1.p3], .agg #[.int .i64 (readR raw).2.1, .int .i64 (readR raw).2.2]]) ∧
      OwnW w' w.heap.size la cap (readR raw).1.L ∧ Below w.heap.size w w' := by
  have C1 := Lib.hid (fun W (h : Below w.heap.size w W) => newReader_any ao raw c W (hl.below h) bl nl)
  have h0 : (⟨raw, 0, none⟩ : RS).Ok := ⟨bl, Nat.zero_le _⟩
  have hn := nR_ok h0
  have HN := Lib.hid hn
  clear hl bl h0
  go_enter Try.func29, Try.ntmps29
  go_wp2_with fail
  refine (C1.out _ (((Below.refl _ _).alloc (Nat.le_refl _) _).alloc (by simp) _)).mono ?_
  obtain ⟨wX, hX⟩ : ∃ wX, (w.alloc (.cells #[.slice none 0 0, .int .u64 0, .int .u64 0, .int .u64 0, .int .u64 0] 26)).alloc (.cells #[.int .i64 0, .int .i64 0] 49) = wX := ⟨_, rfl⟩
  rw [hX]
  rintro e w1 ⟨r, ao', c', rfl, hrd, hb⟩
  have hsX : wX.heap.size = w.heap.size + 2 := by rw [← hX]; simp
  have HX := Lib.hid hX
  have HS := Lib.hid hsX
  have hs1 : w.heap.size + 2 ≤ w1.heap.size := by have := hb.size; omega
  have hsit := Lib.hid ((⟨hb.alloc hb.size _, hrd.step ((Below.refl _ _).alloc (Nat.le_refl _) _), hb.size, heap_at w1 _ rfl, own_none _ _⟩ : RdSit wX (w1.alloc (.cells #[.slice none 0 0, .int .u64 0, .int .u64 0, .int .u64 0, .int .u64 0] 26)) w1.heap.size r ⟨raw, 0, none⟩ ao' c' none none 0 ⟨[], 0, 0, 0, 0⟩))
  clear hb hrd hX hsX
  go_wp2_with fail
  refine (n_any hsit.out.rdr).mono ?_
  rintro e w2 ⟨rfl, ⟨fp2, hr2⟩, hg2⟩
  have hs2 := Lib.hid (hsit.out.read hr2 hg2)
  have HR : Hid (readB raw = (⟨(uN (nR ⟨raw, 0, none⟩).1.toNat (nR ⟨raw, 0, none⟩).2).1, (uN 4 (uN (nR ⟨raw, 0, none⟩).1.toNat (nR ⟨raw, 0, none⟩).2).2).1.getD 0 0, (uN 4 (uN (nR ⟨raw, 0, none⟩).1.toNat (nR ⟨raw, 0, none⟩).2).2).1.getD 1 0,
    (uN 4 (uN (nR ⟨raw, 0, none⟩).1.toNat (nR ⟨raw, 0, none⟩).2).2).1.getD 2 0, (uN 4 (uN (nR ⟨raw, 0, none⟩).1.toNat (nR ⟨raw, 0, none⟩).2).2).1.getD 3 0⟩, (uN 4 (uN (nR ⟨raw, 0, none⟩).1.toNat (nR ⟨raw, 0, none⟩).2).2).2)) := Lib.hid rfl
  clear hsit hr2 hg2 hn
  generalize nR ⟨raw, 0, none⟩ = N1 at *
  obtain ⟨z, S1⟩ := N1
  dsimp only at *
  obtain ⟨n, hz⟩ : ∃ n : Nat, z = n := ⟨z.toNat, by have := HN.out.2.1; omega⟩
  subst hz
  have hn64 : n ≤ 64 := by have := HN.out.2.2.1; omega
  have HOk := Lib.hid HN.out.1
  simp only [Int.toNat_natCast] at HR
  clear HN
  obtain ⟨bk, hbk⟩ : ∃ bk, bk = w1.heap.size := ⟨_, rfl⟩
  rw [← hbk] at hs2 ⊢
  clear hbk hs1 C1
  go_wp2_with fail
  go_loopw [12] (Rd1 wX bk r S1 ao' c' n) (fun i _ => n - (intOf i).toNat)
  case atStart => exact ⟨0, fp2, none, 0, Nat.zero_le _, rfl, hs2.out⟩
  case round =>
    clear hs2
    obtain ⟨k, fp, la, cap, hk, rfl, hsit⟩ := hrel
    have hlen := (uN_ok HOk.out k).2.2.1
    have hok := Lib.hid (uN_ok HOk.out k)
    by_cases hlt : k < n
    · have hnx : Hid (uN (k + 1) S1 = ((uN k S1).1 ++ [(uR (uN k S1).2).1], (uR (uN k S1).2).2)) := Lib.hid rfl
      generalize uN k S1 = A at *
      obtain ⟨l, S⟩ := A
      dsimp only at *
      have hll : l.length ≤ 64 := by omega
      have HLn := Lib.hid hlen
      clear hlen
      have HU := Lib.hid (fun W' (h : Below wr.heap.size wr W') => (u_any (hsit.step h).rdr).mono (fun _ w' hp => And.intro hp.1 (Exists.elim hp.2.1 fun fp' hr => (⟨fp', (hsit.step h).read hr hp.2.2⟩ : ∃ fp', RdSit wX w' bk r (uR S).2 ao' c' fp' la cap ⟨l, 0, 0, 0, 0⟩))))
      obtain ⟨x0, _, _, _, _, f0, _⟩ := five hsit.hb
      generalize uR S = U at *
      obtain ⟨x, S'⟩ := U
      dsimp only at *
      obtain ⟨i0, hi, hz0, hz1, hz2⟩ := info_parts Try.info23
      clear hsit
      go_wp2_with fail
      go_region_law
        (first | (go_simp; go_at_call 61; refine (HU.out _ (by exact (Below.refl _ _).drew)).mono ?_; rintro e' w3 ⟨rfl, fp', hs3⟩; obtain ⟨x0, _, _, _, _, f0, _⟩ := five hs3.hb; have x0a := (five ((heap_old w3 (.cells #[.int .u64 x] 23) (lt_of_block hs3.hb)).trans hs3.hb)).1; have HS3 := Lib.hid hs3; clear hs3) | (refine step_append_lies _ (by rfl) _ _ _ (by rfl) wX.heap.size 23 i0 (.int .u64 0) 1 8 Try.underlying22 hi hz0 hz1 hz2 rfl (by decide) (.slice la l.length cap) l.length (l.map (Value.int .u64)) (by rfl) (HS3.out.own.alloc _) ⟨w3.heap.size, 0, none⟩ 1 1 [.int .u64 x] (by rfl) (by rfl) (cell_one_new _ _ _) (by simp [Value.oneCell']) (by omega) (by simp only [maxLen]; omega) (by omega) (by have := HS3.out.below.size; simp; omega) (w3.heap.size + 1) (by simp) ?_; intro g cap' w4 hown4 hgrow4 hat4 hlt4; obtain ⟨y0, g0, hg4⟩ := HS3.out.far hgrow4; have HG4 := Lib.hid hg4; have HW4 := Lib.hid hown4; clear hgrow4 hat4 hlt4 hg4 hown4))
      all_goals
        go_wp2_with fail
        go_roundw
        case rel => exact ⟨k + 1, fp', some ⟨g, 0, none⟩, cap', by omega, by go_num, by rw [hnx.out]; have := HS3.out.app (own_snoc HW4.out) HG4.out; simpa using this⟩
        case measure => simp [intOf]; omega
    · obtain rfl : k = n := by omega
      have HA : Hid (readB raw = (bof (uN k S1).1 (uN 4 (uN k S1).2).1, (uN 4 (uN k S1).2).2)) := HR
      have hWs := Lib.hid hok.out.2.1
      have hlen' : (uN k S1).1.length ≤ 64 := by omega
      clear hlen
      have hOk2 := Lib.hid hok.out.1
      generalize uN k S1 = A at *
      obtain ⟨L, S2⟩ := A
      dsimp only at *
      clear hok HOk HR
      have HS2 := Lib.hid (show RdSit wX wr bk r S2 ao' c' fp la cap (bof L []) from hsit)
      clear hsit hlt
      go_wp2_with fail
      go_loopw [22] (Rd2 wX bk r S2 ao' c' la cap L) (fun i _ => 4 - (intOf i).toNat)
      case atStart => exact ⟨0, fp, by omega, rfl, HS2.out⟩
      case round =>
        clear HS2
        obtain ⟨j, fp, hj, rfl, hsit⟩ := hrel
        have hlj := (uN_ok hOk2.out j).2.2.1
        by_cases hlt : j < 4
        · have hnx : Hid (uN (j + 1) S2 = ((uN j S2).1 ++ [(uR (uN j S2).2).1], (uR (uN j S2).2).2)) := Lib.hid rfl
          generalize uN j S2 = A at *
          obtain ⟨p, S⟩ := A
          dsimp only at *
          have HLj := Lib.hid hlj
          clear hlj
          have HU := Lib.hid ((u_any hsit.rdr).mono (fun _ w' hp => And.intro hp.1 (Exists.elim hp.2.1 fun fp' hr => (⟨fp', hsit.read hr hp.2.2⟩ : ∃ fp', RdSit wX w' bk r (uR S).2 ao' c' fp' la cap (bof L p)))))
          generalize uR S = U at *
          obtain ⟨x, S'⟩ := U
          dsimp only at *
          clear hsit
          go_wp2_with fail
          refine HU.out.mono ?_
          rintro e w3 ⟨rfl, fp', hs3⟩
          obtain ⟨q1, q2⟩ := five_at hs3.hb hlt
          have HS3 := Lib.hid hs3
          clear hs3 HU
          go_wp2_with fail
          go_roundw
          case rel => exact ⟨j + 1, fp', by omega, by go_num, by rw [hnx.out]; simp only; rw [bof_snoc L p x (by rw [HLj.out]; exact hlt), HLj.out]; exact HS3.out.pool j hlt x⟩
          case measure => simp [intOf]; omega
        · obtain rfl : j = 4 := by omega
          have hWp := Lib.hid (uN_ok hOk2.out 4)
          have hok2 := hlen'
          generalize uN 4 S2 = A at *
          obtain ⟨p, S3⟩ := A
          dsimp only at *
          have HB : Hid ((bof L p).Wf) := Lib.hid (by
            have hp := hWp.out.2.1
            have hl := hWp.out.2.2.1
            exact ⟨hWs.out, hp.at (by omega), hp.at (by omega), hp.at (by omega), hp.at (by omega)⟩)
          have HE := Lib.hid (end_any hsit.rdr)
          have hLl := hsit.own.low
          have hR : readR raw = if (endR S3).1 ≠ 0 then (B0, endR S3) else if (bof L p).chk ≠ 0 then (B0, 12, 0) else (bof L p, 0, 0) := by unfold readR; rw [HA.out]
          have hLn : Hid ((bof L p).L.length ≤ 64) := Lib.hid (by have := hok2; exact this)
          generalize bof L p = B at *
          generalize endR S3 = E at *
          obtain ⟨er, ea⟩ := E
          dsimp only at *
          have hXX := HX.out
          have k2 : wr.heap[w.heap.size]? = some (.cells #[.slice none 0 0, .int .u64 0, .int .u64 0, .int .u64 0, .int .u64 0] 26 (0, 0)) :=
            (hsit.below.block _ (by rw [HS.out]; omega)).trans (by rw [← hXX]; exact (heap_old _ _ (by simp)).trans (heap_at w _ rfl))
          have k3 : wr.heap[w.heap.size + 1]? = some (.cells #[.int .i64 0, .int .i64 0] 49 (0, 0)) :=
            (hsit.below.block _ (by rw [HS.out]; omega)).trans (by rw [← hXX]; exact heap_at (w.alloc _) _ (by simp))
          have kX : Hid (Below w.heap.size w wX) := Lib.hid (by rw [← hXX]; exact ((Below.refl _ _).alloc (Nat.le_refl _) _).alloc (by simp) _)
          have hbk := hsit.lo
          have hsX := HS.out
          have hlw := hsit.below.size
          have HT := Lib.hid hsit
          have HR := Lib.hid hR
          clear hXX HX hsit hR hOk2 HA hWp
          obtain ⟨b2, hb2⟩ : ∃ b2, w.heap.size = b2 := ⟨_, rfl⟩
          have HB2 := Lib.hid hb2
          rw [hb2] at k2 k3 hsX ⊢
          clear hb2
          go_wp2_with fail
          refine HE.out.mono ?_
          rintro e w3 ⟨rfl, hb⟩
          have hT3 := HT.out.step hb
          have k2' := (hb.block b2 (lt_of_block k2)).trans k2
          have k3' := (hb.block (b2 + 1) (lt_of_block k3)).trans k3
          have hz3 := hb.size
          have l2 := lt_of_block k2'
          have l3 := lt_of_block k3'
          have l4 := lt_of_block hT3.hb
          have HT3 := Lib.hid hT3
          have K2 := Lib.hid k2'
          have K3 := Lib.hid k3'
          clear hT3 hb k2 k3 HT HE k2' k3'
          have HW3 : Hid (Below b2 w w3) := Lib.hid (by rw [← HB2.out]; exact kX.out.trans (HT3.out.below.mono (by rw [HS.out]; omega)))
          by_cases her : er = 0
          · subst her
            have hq : ((0 : Int) == 0) = true := rfl
            obtain ⟨x0, x1, x2, x3, x4, _⟩ := five HT3.out.hb
            have C2 := Lib.hid (fun W' (h : Below w3.heap.size w3 W') => check_any la B cap W' (HT3.out.own.rd.below h) HB.out (by have := hLn.out; omega))
            go_wp2_with fail
            refine (C2.out _ ((Below.refl _ _).alloc (Nat.le_refl _) _)).mono ?_
            rintro e w4 ⟨rfl, hb⟩
            have hb4 : Below w3.heap.size w3 w4 := ((Below.refl _ _).alloc (Nat.le_refl _) _).trans (hb.mono (by simp))
            have hT4 := HT3.out.step hb4
            obtain ⟨c0, c1, c2, c3, c4, d0, d1, d2, d3, d4⟩ := five ((hb4.block b2 l2).trans K2.out)
            obtain ⟨e0, e1, g0, g1⟩ := two ((hb4.block (b2 + 1) l3).trans K3.out)
            clear x0 x1 x2 x3 x4
            obtain ⟨x0, x1, x2, x3, x4, _⟩ := five hT4.hb
            have HT4 := Lib.hid hT4
            have HW4 : Hid (Below b2 w w4) := Lib.hid (HW3.out.trans (hb4.mono (by omega)))
            have hneb : bk ≠ b2 := by omega
            have hneb' : bk ≠ b2 + 1 := by omega
            clear hb hb4 hT4 C2
            by_cases hc : B.chk = 0
            · have hq2 : (B.chk == 0) = true := by rw [hc]; rfl
              have hq2' : (B.chk != 0) = false := by rw [hc]; rfl
              have HV : Hid (readR raw = (B, 0, 0)) := Lib.hid (by rw [HR.out, if_neg (by simp), if_neg (by simp [hc])])
              generalize B.chk = ch at *
              clear hc
              go_wp2_with fail
              refine bodyPost_ret (v := .tuple #[.agg #[.slice la B.L.length cap, .int .u64 B.p0, .int .u64 B.p1, .int .u64 B.p2, .int .u64 B.p3], .agg #[.int .i64 0, .int .i64 0]]) (by simp [results, Try.results29, go_sem, c0, c1, c2, c3, c4, e0, e1]) rfl ?_
              rw [HV.out, HB2.out]
              have hnb : ∀ p, la = some p → p.block ≠ b2 ∧ p.block ≠ b2 + 1 := fun p hp => by have := hLl p hp; omega
              exact ⟨la, cap, rfl, (((HT4.out.own.mono (by omega)).set5 (fun p hp => (hnb p hp).1) _ _ _ _ _).setCell (a := ⟨b2 + 1, 0, none⟩) (fun p hp => (hnb p hp).2) _).setCell (a := ⟨b2 + 1, 1, none⟩) (fun p hp => (hnb p hp).2) _,
                ((below_set5 HW4.out (Nat.le_refl _) _ _ _ _ _).setCell (p := ⟨b2 + 1, 0, none⟩) (by simp) _).setCell (p := ⟨b2 + 1, 1, none⟩) (by simp) _⟩
            · have hq2 : (B.chk == 0) = false := by rw [beq_eq_false_iff_ne]; exact hc
              have hq2' : (B.chk != 0) = true := by simpa using hc
              have HV : Hid (readR raw = (B0, 12, 0)) := Lib.hid (by rw [HR.out, if_neg (by simp), if_pos hc])
              generalize B.chk = ch at *
              clear hc
              go_wp2_with fail
              refine bodyPost_ret (v := .tuple #[.agg #[.slice none 0 0, .int .u64 0, .int .u64 0, .int .u64 0, .int .u64 0], .agg #[.int .i64 12, .int .i64 0]]) (by simp [results, Try.results29, go_sem, c0, c1, c2, c3, c4, e0, e1]) rfl ?_
              rw [HV.out, HB2.out]
              exact ⟨none, 0, rfl, own_none _ _, ((below_set5 HW4.out (Nat.le_refl _) _ _ _ _ _).setCell (p := ⟨b2 + 1, 0, none⟩) (by simp) _).setCell (p := ⟨b2 + 1, 1, none⟩) (by simp) _⟩
          · have hq : (er == 0) = false := by rw [beq_eq_false_iff_ne]; exact her
            have hq' : (er != 0) = true := by simpa using her
            have HV : Hid (readR raw = (B0, er, ea)) := Lib.hid (by rw [HR.out, if_pos her])
            obtain ⟨c0, c1, c2, c3, c4, d0, d1, d2, d3, d4⟩ := five K2.out
            obtain ⟨e0, e1, g0, g1⟩ := two K3.out
            clear her
            go_wp2_with fail
            go_region
            go_wp2_with fail
            refine bodyPost_ret (v := .tuple #[.agg #[.slice none 0 0, .int .u64 0, .int .u64 0, .int .u64 0, .int .u64 0], .agg #[.int .i64 er, .int .i64 ea]]) (by simp [results, Try.results29, go_sem, c0, c1, c2, c3, c4, e0, e1, l2, l3, World.cell?_alloc_past]) rfl ?_
            rw [HV.out, HB2.out]
            exact ⟨none, 0, rfl, own_none _ _, ((((below_set5 HW3.out (Nat.le_refl _) _ _ _ _ _).setCell (p := ⟨b2 + 1, 0, none⟩) (by simp) _).setCell (p := ⟨b2 + 1, 1, none⟩) (by simp) _).alloc (by simp [World.setCell]; omega) _).drew⟩
end Go.Proofs.Ytjiffflhedekfaa
