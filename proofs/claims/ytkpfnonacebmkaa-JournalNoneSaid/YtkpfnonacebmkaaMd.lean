/- made: a journal of six cells behind some acts. -/
import Derived.Test.YtkpfnonacebmkaaKn
import Derived.Test.YtkpfnonacebmkaaOp
import Derived.Deep.RegionHeld3
namespace Go.Proofs.Ytkpfnonacebmkaa
open Go.RowKit

/-- One act of 'made'. -/
def mStep (J : JS) (x : Ac) : JS := if x.what = 7 then J else (J.does x.what (x.from_ % 6) (x.to_ % 6) x.amt).1
def JS.made (l : List Ac) : JS := l.foldl mStep (JS.new 6)
theorem foldl_take {α β : Type} (f : β → α → β) (b : β) (l : List α) {k : Nat} {x : α} (h : l[k]? = some x) : (l.take (k + 1)).foldl f b = f ((l.take k).foldl f b) x := by
  rw [List.take_add_one, h]; simp
theorem four {w : World} {b : Nat} {v0 v1 v2 v3 : Value} {t : TypeId} (h : w.heap[b]? = some (.cells #[v0, v1, v2, v3] t (0, 0))) :
    w.cell? ⟨b, 0, none⟩ = some v0 ∧ w.cell? ⟨b, 1, none⟩ = some v1 ∧ w.cell? ⟨b, 2, none⟩ = some v2 ∧ w.cell? ⟨b, 3, none⟩ = some v3 ∧
    w.frozen? ⟨b, 0, none⟩ = false ∧ w.frozen? ⟨b, 1, none⟩ = false ∧ w.frozen? ⟨b, 2, none⟩ = false ∧ w.frozen? ⟨b, 3, none⟩ = false := by
  simp [World.cell?, World.frozen?, h]
theorem ActsAt.base {W w : World} {la : Option Addr} {l : List Ac} (h : ActsAt W la l) (hb : Below W.heap.size W w) {k : Nat} {x : Ac} (hk : l[k]? = some x) : ∃ lb lo, la = some ⟨lb, lo, none⟩ ∧ lb < w.heap.size ∧ W64 x.amt ∧ w.cell? ⟨lb, lo + k * 4, none⟩ = some (.int .i64 x.what) ∧
    w.cell? ⟨lb, lo + k * 4 + 1, none⟩ = some (.int .i64 x.from_) ∧ w.cell? ⟨lb, lo + k * 4 + 2, none⟩ = some (.int .i64 x.to_) ∧ w.cell? ⟨lb, lo + k * 4 + 3, none⟩ = some (.int .u64 x.amt) := h.below hb k x hk

set_option maxRecDepth 100000 in
set_option maxHeartbeats 3200000 in
theorem made_any (W : World) (la : Option Addr) (l : List Ac) (n lc : Nat) (hln : l.length = n) (hn : n ≤ 1000000) (hA : ActsAt W la l) (hI : AcsIn l) :
    Calls Try.prog 30 #[.slice la n lc] W fun e w' => ∃ r, e = .returned (.pointer (some ⟨r, 0, none⟩)) ∧ Jo W (fun k => k < W.heap.size) r (JS.made l) w' := by
  have HN := Lib.hid (Jo.new 6 W (by omega) (by omega))
  have HA := Lib.hid hA
  have HI := Lib.hid hI
  have HL := Lib.hid hln
  clear hA hI hln
  go_enter Try.func30, Try.ntmps30
  go_wp2_with fail
  refine HN.out.mono ?_
  rintro e w1 ⟨r, rfl, h1⟩
  have H1 := Lib.hid h1
  clear h1
  go_wp2_with fail
  go_loopw [5] (fun i wr => ∃ k : Nat, k ≤ n ∧ i = .int .i64 k ∧ Jo W (fun k => k < W.heap.size) r ((l.take k).foldl mStep (JS.new 6)) wr) (fun i _ => n - (RowKit.intOf i).toNat)
  case atStart => exact ⟨0, Nat.zero_le _, rfl, H1.out⟩
  case round =>
    clear H1
    obtain ⟨k, hk, rfl, hj⟩ := hrel
    by_cases hlt : k < n
    · obtain ⟨x, hx⟩ : ∃ x, l[k]? = some x := ⟨l[k]'(by have := HL.out; omega), List.getElem?_eq_getElem (by have := HL.out; omega)⟩
      obtain ⟨lb, lo, rfl, hlb, hw, c0, c1, c2, c3⟩ := HA.out.base hj.base hx
      have hin := HI.out x (List.mem_of_getElem? hx)
      have HF : Hid ((l.take (k + 1)).foldl mStep (JS.new 6) = mStep ((l.take k).foldl mStep (JS.new 6)) x) := Lib.hid (foldl_take _ _ _ hx)
      have P1 := Lib.hid (fun w => pick_at x.from_ 6 w hin.from_ (by omega) (by omega))
      have P2 := Lib.hid (fun w => pick_at x.to_ 6 w hin.to_ (by omega) (by omega))
      have HX := Lib.hid hx
      have HW := Lib.hid hw
      have HJ := Lib.hid hj
      clear hin hx hw hj
      obtain ⟨kind, i, q, m⟩ := x
      dsimp only at *
      have hne : lb ≠ wr.heap.size := by omega
      go_wp2_with fail
      go_region_law (first | (go_simp; go_at_call_of 12 (Value.int IntKind.i64 i); refine (P1.out _).mono ?_; rintro e w2 ⟨rfl, rfl⟩) | (go_simp; go_at_call_of 12 (Value.int IntKind.i64 q); refine (P2.out _).mono ?_; rintro e w2 ⟨rfl, rfl⟩))
      all_goals
        have hB : Below wr.heap.size wr (wr.alloc (.cells #[.int .i64 kind, .int .i64 (i % 6), .int .i64 (q % 6), .int .u64 m] 50)).drew := ((Below.refl _ _).alloc (Nat.le_refl _) _).drew
        obtain ⟨d0, d1, d2, d3, _⟩ := four (show (wr.alloc (.cells #[.int .i64 kind, .int .i64 (i % 6), .int .i64 (q % 6), .int .u64 m] 50)).drew.heap[wr.heap.size]? = _ from heap_at wr (.cells #[.int .i64 kind, .int .i64 (i % 6), .int .i64 (q % 6), .int .u64 m] 50) rfl)
        have HJ2 := Lib.hid (HJ.out.below hB)
        clear hB c0 c1 c2 c3 hlb hne
        generalize (wr.alloc (.cells #[.int .i64 kind, .int .i64 (i % 6), .int .i64 (q % 6), .int .u64 m] 50)).drew = w2 at *
        by_cases h7 : kind = 7
        · subst h7
          have HS : Hid ((l.take (k + 1)).foldl mStep (JS.new 6) = (l.take k).foldl mStep (JS.new 6)) := Lib.hid (by rw [HF.out]; rfl)
          go_wp2_with fail
          go_roundw
          case rel => exact ⟨k + 1, by omega, by go_num, by rw [HS.out]; exact HJ2.out⟩
          case measure => simp [RowKit.intOf]; omega
        · have hq7 : (kind != 7) = true := by rw [bne_iff_ne]; exact h7
          have HS : Hid ((l.take (k + 1)).foldl mStep (JS.new 6) = (((l.take k).foldl mStep (JS.new 6)).does kind (i % 6) (q % 6) m).1) := Lib.hid (by rw [HF.out]; unfold mStep; rw [if_neg h7])
          have HD := Lib.hid (HJ2.out.does kind (i % 6) (q % 6) HW.out)
          clear h7
          go_wp2_with fail
          refine HD.out.mono ?_
          rintro e w3 ⟨rfl, hj3, _⟩
          have HJ3 := Lib.hid hj3
          clear hj3
          go_wp2_with fail
          go_roundw
          case rel => exact ⟨k + 1, by omega, by go_num, by rw [HS.out]; exact HJ3.out⟩
          case measure => simp [RowKit.intOf]; omega
    · obtain rfl : k = n := by omega
      have HE : Hid (l.take k = l) := Lib.hid (List.take_of_length_le (by have := HL.out; omega))
      have HJ := Lib.hid hj
      clear hj
      go_wp2_with fail
      go_ret
      exact ⟨r, rfl, by unfold JS.made; rw [← HE.out]; exact HJ.out⟩
end Go.Proofs.Ytkpfnonacebmkaa
