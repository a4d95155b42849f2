/- begun, opens, awake. -/
import Derived.Test.YtkpfnonacebmkaaJo
namespace Go.Proofs.Ytkpfnonacebmkaa
open Go.RowKit

/-- The chapter's journal. -/
def JA : JS := ⟨[9, 5, 0], [], []⟩
theorem w64_of {n : Nat} (h : n < 18446744073709551616) : W64 n := ⟨by omega, by omega⟩
set_option maxRecDepth 100000 in
set_option maxHeartbeats 800000 in
theorem begun_any (W : World) : Calls Try.prog 21 #[] W fun e w' => ∃ r, e = .returned (.pointer (some ⟨r, 0, none⟩)) ∧ Jo W (fun k => k < W.heap.size) r JA w' := by
  have HN := Lib.hid (Jo.new 3 W (by omega) (by omega))
  go_enter Try.func21, Try.ntmps21
  go_wp2_with fail
  refine HN.out.mono ?_
  rintro e w1 ⟨r, rfl, h1⟩
  have H1 := Lib.hid h1
  clear h1
  go_wp2_with fail
  refine (H1.out.set 0 (n := 9) (w64_of (n := 9) (by omega))).mono ?_
  rintro e w2 ⟨rfl, h2, _⟩
  have H2 := Lib.hid (show Jo W _ r ⟨[9, 0, 0], [], []⟩ w2 from h2)
  have e2 : ((JS.new 3).set 0 9).2 = 0 := rfl
  rw [e2]
  clear h2 e2
  go_wp2_with fail
  refine (H2.out.set 1 (n := 5) (w64_of (n := 5) (by omega))).mono ?_
  rintro e w3 ⟨rfl, h3, _⟩
  have H3 := Lib.hid (show Jo W _ r JA w3 from h3)
  have e3 : ((⟨[9, 0, 0], [], []⟩ : JS).set 1 5).2 = 0 := rfl
  rw [e3]
  clear h3 e3
  go_wp2_with fail
  go_ret
  exact ⟨r, rfl, H3.out⟩

section
variable {W w : World} {G : Nat → Prop} {r : Nat} {J : JS}
set_option maxHeartbeats 400000 in
theorem opens_yes (h : Jo W G r J w) (hL : J.L.length ≤ 63) (n : Int) (hn : n = (J.L.length : Int) + 1) :
    Calls Try.prog 22 #[.pointer (some ⟨r, 0, none⟩), .int .i64 n] w fun e w' => e = .returned (.bool true) ∧ (Jo W G r { J with L := (J.U.length, []) :: J.L } w' ∧ Kept G w w') := by
  have HB := h.begin
  have e : J.begin = ({ J with L := (J.U.length, []) :: J.L }, (J.L.length : Int) + 1, 0) := by unfold JS.begin; rw [if_neg (by omega)]
  rw [e] at HB
  simp only at HB
  rw [← hn] at HB
  have HB := Lib.hid HB
  clear h hL e hn
  go_enter Try.func22, Try.ntmps22
  go_wp2_with fail
  refine HB.out.mono ?_
  rintro e w' ⟨rfl, hj⟩
  have HJ := Lib.hid hj
  clear hj
  go_wp2_with fail
  go_ret
  exact ⟨rfl, HJ.out⟩
end
theorem rd_lit {w : World} {b : Nat} {cs : List Int} (h : w.heap[b]? = some (.cells (cs.map (Value.int .u64)).toArray 33 (0, 0))) : Rd w (some ⟨b, 0, none⟩) cs := fun k hk => by
  refine ⟨b, 0, rfl, ?_⟩
  rw [Nat.zero_add, cell_of_row w b k _ 33 (0, 0) h, getD_at hk]
  simp [hk]
theorem ri_lit {w : World} {b : Nat} {cs : List Int} (h : w.heap[b]? = some (.cells (cs.map (Value.int .i64)).toArray 3 (0, 0))) : Ri w (some ⟨b, 0, none⟩) cs := fun k hk => by
  refine ⟨b, 0, rfl, ?_⟩
  rw [Nat.zero_add, cell_of_row w b k _ 3 (0, 0) h, getD_at hk]
  simp [hk]
/-- 'same' between what is told and a list that is written out. -/
theorem same_lit {w0 w : World} {ao : Option Addr} {cap : Nat} {l : List Int} (h : OwnW w w0.heap.size ao cap l) (m : List Int) (hlen : l.length ≤ 4096) (hm : m.length ≤ 4096) :
    Calls Try.prog 25 #[.slice ao l.length cap, .slice (some ⟨w.heap.size, 0, none⟩) m.length m.length] (w.alloc (.cells (m.map (Value.int .u64)).toArray 33)) fun e w' => e = .returned (.bool (decide (l = m))) ∧ Below w.heap.size w w' := by
  have hb := (Below.refl w.heap.size w).alloc (Nat.le_refl _) (.cells (m.map (Value.int .u64)).toArray 33)
  refine (same_any ao _ l m cap m.length _ (h.rd.below hb) (rd_lit (heap_at w _ rfl)) (by omega) (by omega)).mono ?_
  rintro e w' ⟨rfl, n, rfl⟩
  exact ⟨rfl, below_drewN hb n⟩
theorem sameInts_lit {w0 w : World} {ao : Option Addr} {cap : Nat} {l : List Int} (h : OwnI w w0.heap.size ao cap l) (m : List Int) (hlen : l.length ≤ 4096) (hm : m.length ≤ 4096) :
    Calls Try.prog 47 #[.slice ao l.length cap, .slice (some ⟨w.heap.size, 0, none⟩) m.length m.length] (w.alloc (.cells (m.map (Value.int .i64)).toArray 3)) fun e w' => e = .returned (.bool (decide (l = m))) ∧ Below w.heap.size w w' := by
  have hb := (Below.refl w.heap.size w).alloc (Nat.le_refl _) (.cells (m.map (Value.int .i64)).toArray 3)
  refine (sameInts_any ao _ l m cap m.length _ (h.rd.below hb) (ri_lit (heap_at w _ rfl)) (by omega) (by omega)).mono ?_
  rintro e w' ⟨rfl, n, rfl⟩
  exact ⟨rfl, below_drewN hb n⟩

def J1 : JS := ⟨[4, 6, 0], [(1, 5), (0, 9)], [(1, [1]), (0, [0])]⟩
def J2 : JS := ⟨[4, 6, 0], [(1, 5), (0, 9)], [(0, [1, 0])]⟩
set_option maxRecDepth 100000 in
set_option maxHeartbeats 3200000 in
theorem awake_any (W : World) : Calls Try.prog 20 #[] W fun e w' => e = .returned (.bool true) ∧ Below W.heap.size W w' := by
  go_enter Try.func20, Try.ntmps20
  go_wp2_with fail
  refine (begun_any W).mono ?_
  rintro e w1 ⟨r, rfl, h1⟩
  have H1 := Lib.hid h1
  clear h1
  go_wp2_with fail
  refine (opens_yes H1.out (by decide) 1 (by decide)).mono ?_
  rintro e w2 ⟨rfl, h2, _⟩
  have H2 := Lib.hid (show Jo W _ r ⟨[9, 5, 0], [], [(0, [])]⟩ w2 from h2)
  clear h2 H1
  go_wp2_with fail
  refine (H2.out.set 0 (n := 4) (w64_of (n := 4) (by omega))).mono ?_
  rintro e w3 ⟨rfl, h3, _⟩
  have H3 := Lib.hid (show Jo W _ r ⟨[4, 5, 0], [(0, 9)], [(0, [0])]⟩ w3 from h3)
  have e3 : ((⟨[9, 5, 0], [], [(0, [])]⟩ : JS).set 0 4).2 = 0 := rfl
  rw [e3]
  clear h3 e3 H2
  go_wp2_with fail
  refine (opens_yes H3.out (by decide) 2 (by decide)).mono ?_
  rintro e w4 ⟨rfl, h4, _⟩
  have H4 := Lib.hid (show Jo W _ r ⟨[4, 5, 0], [(0, 9)], [(1, []), (0, [0])]⟩ w4 from h4)
  clear h4 H3
  go_wp2_with fail
  refine (H4.out.add 1 (n := 1) (w64_of (n := 1) (by omega))).mono ?_
  rintro e w5 ⟨rfl, h5, _⟩
  have H5 := Lib.hid (show Jo W _ r J1 w5 from h5)
  have e5 : ((⟨[4, 5, 0], [(0, 9)], [(1, []), (0, [0])]⟩ : JS).chg 1 1 addR).2 = 0 := rfl
  rw [e5]
  clear h5 e5 H4
  go_wp2_with fail
  refine H5.out.touched.mono ?_
  rintro e w6 ⟨ao, cap, rfl, ho, hb⟩
  have HO := Lib.hid ho
  have H6 := Lib.hid (H5.out.below hb)
  clear ho hb H5
  go_wp2_with fail
  refine (sameInts_lit HO.out [1] (by decide) (by decide)).mono ?_
  rintro e w7 ⟨rfl, hb⟩
  have H7 := Lib.hid (H6.out.below hb)
  rw [show decide (J1.touched = [1]) = true by decide]
  clear hb H6 HO
  go_wp2_with fail
  refine H7.out.cells.mono ?_
  rintro e w8 ⟨ao, cap, rfl, ho, hb⟩
  have HO := Lib.hid ho
  have H8 := Lib.hid (H7.out.below hb)
  clear ho hb H7
  go_wp2_with fail
  refine (same_lit HO.out [4, 6, 0] (by decide) (by decide)).mono ?_
  rintro e w9 ⟨rfl, hb⟩
  have H9 := Lib.hid (H8.out.below hb)
  rw [show decide (J1.C = [4, 6, 0]) = true by decide]
  clear hb H8 HO
  go_wp2_with fail
  refine H9.out.keep.mono ?_
  rintro e w10 ⟨rfl, h10, _⟩
  have H10 := Lib.hid (show Jo W _ r J2 w10 from h10)
  rw [show J1.keep.2 = 0 from rfl]
  clear h10 H9
  go_wp2_with fail
  refine H10.out.touched.mono ?_
  rintro e w11 ⟨ao, cap, rfl, ho, hb⟩
  have HO := Lib.hid ho
  have H11 := Lib.hid (H10.out.below hb)
  clear ho hb H10
  go_wp2_with fail
  refine (sameInts_lit HO.out [0, 1] (by decide) (by decide)).mono ?_
  rintro e w12 ⟨rfl, hb⟩
  have H12 := Lib.hid (H11.out.below hb)
  rw [show decide (J2.touched = [0, 1]) = true by decide]
  clear hb H11 HO
  go_wp2_with fail
  refine H12.out.undo.mono ?_
  rintro e w13 ⟨rfl, h13, _⟩
  have H13 := Lib.hid (show Jo W _ r JA w13 from h13)
  rw [show J2.undo.2 = 0 from rfl]
  clear h13 H12
  go_wp2_with fail
  refine H13.out.cells.mono ?_
  rintro e w14 ⟨ao, cap, rfl, ho, hb⟩
  have HO := Lib.hid ho
  have H14 := Lib.hid (H13.out.below hb)
  clear ho hb H13
  go_wp2_with fail
  refine (same_lit HO.out [9, 5, 0] (by decide) (by decide)).mono ?_
  rintro e w15 ⟨rfl, hb⟩
  have H15 := Lib.hid (H14.out.below hb)
  rw [show decide (JA.C = [9, 5, 0]) = true by decide]
  clear hb H14 HO
  go_wp2_with fail
  refine H15.out.undo.mono ?_
  rintro e w16 ⟨rfl, h16, _⟩
  have HB := Lib.hid h16.base
  rw [show JA.undo.2 = 11 from rfl]
  clear h16 H15
  go_wp2_with fail
  go_ret
  exact ⟨rfl, HB.out⟩
end Go.Proofs.Ytkpfnonacebmkaa
