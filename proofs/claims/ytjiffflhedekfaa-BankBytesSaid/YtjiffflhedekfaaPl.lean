/- Places of a bank (accounts, pools), what a move makes of a bank, and how a bank in memory stands behind a store at a place. -/
import Derived.Test.YtjiffflhedekfaaHav
namespace Go.Proofs.Ytjiffflhedekfaa
open Go.RowKit

/-- A place: an account or a pool. -/
structure Pl where
  isPool : Bool
  i : Int
def Pl.ty (p : Pl) : Nat := if p.isPool then 89 else 75
def Pl.fn (p : Pl) : Nat := if p.isPool then 111 else 48
def Pl.err (p : Pl) (B : Bk) : Int := if p.isPool then poolE p.i else thereE B.L.length p.i
def Bk.pool (B : Bk) (k : Nat) : Int := [B.p0, B.p1, B.p2, B.p3].getD k 0
def Bk.setPool (B : Bk) (k : Nat) (x : Int) : Bk :=
  match k with
  | 0 => { B with p0 := x }
  | 1 => { B with p1 := x }
  | 2 => { B with p2 := x }
  | _ => { B with p3 := x }
def Pl.get (p : Pl) (B : Bk) : Int := if p.isPool then B.pool p.i.toNat else B.L.getD p.i.toNat 0
def Pl.set (p : Pl) (B : Bk) (x : Int) : Bk := if p.isPool then B.setPool p.i.toNat x else { B with L := B.L.set p.i.toNat x }
/-- What a move tells. -/
def moveR (B : Bk) (f t : Pl) (n : Int) (bar : Bool) : Bk × Int :=
  if B.chk ≠ 0 then (B0, B.chk) else if f.err B ≠ 0 then (B0, f.err B) else if t.err B ≠ 0 then (B0, t.err B) else if bar then (B0, 2) else if f.get B < n then (B0, 13)
  else (t.set (f.set B (f.get B - n)) (t.get (f.set B (f.get B - n)) + n), 0)

theorem setPool_L (B : Bk) (k : Nat) (x : Int) : (B.setPool k x).L = B.L := by unfold Bk.setPool; split <;> rfl
theorem Pl.set_len (p : Pl) (B : Bk) (x : Int) : (p.set B x).L.length = B.L.length := by
  unfold Pl.set; split
  · rw [setPool_L]
  · simp
theorem Pl.err_set (p q : Pl) (B : Bk) (x : Int) : p.err (q.set B x) = p.err B := by
  unfold Pl.err; rw [Pl.set_len]

/-- Where a place lies: the bank's variable, its row of accounts. -/
def Pl.addr (p : Pl) (ob g : Nat) : Addr := if p.isPool then ⟨ob, 1 + p.i.toNat, none⟩ else ⟨g, 0 + p.i.toNat, none⟩
theorem Pl.err_pool {p : Pl} {B : Bk} (hp : p.isPool = true) (h : p.err B = 0) : 0 ≤ p.i ∧ p.i < 4 := by
  unfold Pl.err at h
  rw [if_pos hp] at h
  unfold poolE at h
  split at h
  · assumption
  · cases h
theorem Pl.err_acc {p : Pl} {B : Bk} (hp : p.isPool = false) (h : p.err B = 0) : 0 ≤ p.i ∧ p.i < B.L.length := by
  unfold Pl.err at h
  rw [hp] at h
  simp only [Bool.false_eq_true, if_false] at h
  unfold thereE at h
  split at h
  · assumption
  · cases h

/-- A bank in memory: its variable, its accounts in a row of the call's own. -/
structure Mem (W : World) (base ob g cap : Nat) (B : Bk) : Prop where
  out : W.heap[ob]? = some (.cells #[.slice (some ⟨g, 0, none⟩) B.L.length cap, .int .u64 B.p0, .int .u64 B.p1, .int .u64 B.p2, .int .u64 B.p3] 26 (0, 0))
  own : OwnW W base (some ⟨g, 0, none⟩) cap B.L
  ne : g ≠ ob
theorem Mem.cell {W : World} {base ob g cap : Nat} {B : Bk} (h : Mem W base ob g cap B) (p : Pl) (hp : p.err B = 0) :
    W.cell? (p.addr ob g) = some (.int .u64 (p.get B)) ∧ W.frozen? (p.addr ob g) = false := by
  cases hb : p.isPool with
  | true =>
    obtain ⟨h0, h1⟩ := Pl.err_pool hb hp
    have := five_at h.out (k := p.i.toNat) (by omega)
    simpa [Pl.addr, Pl.get, Bk.pool, hb] using this
  | false =>
    obtain ⟨h0, h1⟩ := Pl.err_acc hb hp
    have hk : p.i.toNat < B.L.length := by omega
    have h2 := World.ownsRow.cellAt h.own p.i.toNat (by omega)
    have h3 := World.ownsRow.frozenAt h.own p.i.toNat
    rw [List.getElem?_map, List.getElem?_eq_getElem hk] at h2
    simp only [Pl.addr, Pl.get, hb, Bool.false_eq_true, if_false, Nat.zero_add]
    exact ⟨by rw [h2, getD_at hk]; rfl, h3⟩
theorem Mem.set {W : World} {base ob g cap : Nat} {B : Bk} (h : Mem W base ob g cap B) (p : Pl) (hp : p.err B = 0) (x : Int) :
    Mem (W.setCell (p.addr ob g) (.int .u64 x)) base ob g cap (p.set B x) := by
  cases hb : p.isPool with
  | true =>
    obtain ⟨h0, h1⟩ := Pl.err_pool hb hp
    have hL : (p.set B x).L = B.L := by simp [Pl.set, hb, setPool_L]
    have ha : p.addr ob g = ⟨ob, 1 + p.i.toNat, none⟩ := by simp [Pl.addr, hb]
    have hs : p.set B x = B.setPool p.i.toNat x := by simp [Pl.set, hb]
    rw [ha]
    refine ⟨?_, by rw [hL]; exact h.own.setCell (fun q hq => by cases hq; exact h.ne) _, h.ne⟩
    rw [hL, hs]
    have ho := h.out
    have hk : p.i.toNat < 4 := by omega
    generalize p.i.toNat = k at hk
    match k, hk with
    | 0, _ => simp [World.setCell, Array.getElem?_modify, ho, Bk.setPool]
    | 1, _ => simp [World.setCell, Array.getElem?_modify, ho, Bk.setPool]
    | 2, _ => simp [World.setCell, Array.getElem?_modify, ho, Bk.setPool]
    | 3, _ => simp [World.setCell, Array.getElem?_modify, ho, Bk.setPool]
  | false =>
    obtain ⟨h0, h1⟩ := Pl.err_acc hb hp
    have ha : p.addr ob g = ⟨g, p.i.toNat, none⟩ := by simp [Pl.addr, hb]
    have hs : p.set B x = { B with L := B.L.set p.i.toNat x } := by simp [Pl.set, hb]
    rw [ha, hs]
    refine ⟨?_, ?_, h.ne⟩
    · rw [Below.heap_setCell _ _ _ _ (Ne.symm h.ne)]
      simpa using h.out
    · have h2 := (World.ownsRow.stored h.own p.i.toNat (.int .u64 x)).1
      unfold OwnW
      rw [List.map_set]
      simpa using h2
theorem Pl.addr_block (p : Pl) (ob g : Nat) : (p.addr ob g).block = ob ∨ (p.addr ob g).block = g := by
  unfold Pl.addr; split <;> simp
end Go.Proofs.Ytjiffflhedekfaa
