/- JournalNone. -/
import Derived.Test.YtkpfnonacebmkaaNa
import Derived.Test.YtkpfnonacebmkaaMd
namespace Go.Proofs.Ytkpfnonacebmkaa
open Go.RowKit

/-- The blocks at JournalNone's head. -/
structure NnB (W w3 : World) (kind i k n : Int) : Prop where
  b : Below W.heap.size W w3
  a0 : w3.heap[W.heap.size]? = some (.cells #[.int .i64 kind, .int .i64 i, .int .i64 k, .int .u64 n] 50 (0, 0))
  a1 : w3.heap[W.heap.size + 1]? = some (.cells #[.slice none 0 0, .pointer none, .slice none 0 0] 65 (0, 0))
  a2 : w3.heap[W.heap.size + 1 + 1]? = some (.cells #[.pointer none, .pointer (some ⟨W.heap.size + 1, 0, none⟩)] 22 (0, 0))
theorem NnB.init (W : World) (kind i k n : Int) : NnB W (((W.alloc (.cells #[.int .i64 kind, .int .i64 i, .int .i64 k, .int .u64 n] 50)).alloc (.cells #[.slice none 0 0, .pointer none, .slice none 0 0] 65)).alloc (.cells #[.pointer none, .pointer (some ⟨W.heap.size + 1, 0, none⟩)] 22)) kind i k n := by
  refine ⟨(((Below.refl _ _).alloc (Nat.le_refl _) _).alloc (by simp) _).alloc (by simp; try omega) _, ?_, ?_, ?_⟩
  · exact (heap_old _ _ (by simp; try omega)).trans ((heap_old _ _ (by simp)).trans (heap_at W _ rfl))
  · exact (heap_old _ _ (by simp)).trans (heap_at (W.alloc _) _ (by simp))
  · exact heap_at ((W.alloc _).alloc _) _ (by simp)
set_option maxRecDepth 100000 in
set_option maxHeartbeats 6400000 in
theorem journalNone_any (W : World) (kind i k n : Int) : Calls Try.prog 9 #[.agg #[.int .i64 kind, .int .i64 i, .int .i64 k, .int .u64 n]] W fun e w' => e = .returned (.bool true) ∧ Below W.heap.size W w' := by
  have HI := Lib.hid (NnB.init W kind i k n)
  go_enter Try.func9, Try.ntmps9
  go_wp2_with fail
  generalize (((W.alloc (.cells #[.int .i64 kind, .int .i64 i, .int .i64 k, .int .u64 n] 50)).alloc (.cells #[.slice none 0 0, .pointer none, .slice none 0 0] 65)).alloc (.cells #[.pointer none, .pointer (some ⟨W.heap.size + 1, 0, none⟩)] 22)) = w3 at *
  have HA0 := Lib.hid (fun (w : World) (hb : Below w3.heap.size w3 w) => four ((hb.block _ (lt_of_block HI.out.a0)).trans HI.out.a0))
  have HAB := Lib.hid (fun (w : World) (hb : Below w3.heap.size w3 w) (q : Nat) (hq : q < 2) => (show ∃ p, w.cell? ⟨W.heap.size + 1 + 1, q, none⟩ = some (.pointer p) ∧ Ab w p from by
    obtain ⟨x0, x1, _⟩ := two ((hb.block _ (lt_of_block HI.out.a2)).trans HI.out.a2)
    rcases Nat.lt_or_ge q 1 with h | h
    · obtain rfl : q = 0 := by omega
      exact ⟨none, x0, .inl rfl⟩
    · obtain rfl : q = 1 := by omega
      exact ⟨_, x1, .inr ⟨_, rfl, (hb.block _ (lt_of_block HI.out.a1)).trans HI.out.a1⟩⟩))
  have HB0 := Lib.hid HI.out.b
  clear HI
  generalize W.heap.size + 1 + 1 = A2 at *
  generalize hA0 : W.heap.size = A0 at *
  have HZ := Lib.hid hA0
  clear hA0
  go_loopw [4, 5, 6, 7, 8, 9] (fun q _ _ _ _ _ wr => ∃ j : Nat, j ≤ 2 ∧ q = .int .i64 j ∧ Below w3.heap.size w3 wr) (fun q _ _ _ _ _ _ => 2 - (RowKit.intOf q).toNat)
  case atStart => exact ⟨0, by omega, rfl, Below.refl _ _⟩
  case round =>
    obtain ⟨q, hq, rfl, hb⟩ := hrel
    have HB := Lib.hid hb
    by_cases hlt : q < 2
    · obtain ⟨p, hp, hab⟩ := HAB.out wr hb q hlt
      obtain ⟨c0, c1, c2, c3, _⟩ := HA0.out wr hb
      have HAB0 := Lib.hid hab
      clear hab hb HAB
      by_cases hk : 0 ≤ kind ∧ kind < 8
      · obtain ⟨hk0, hk8⟩ := hk
        have q0 : decide (0 ≤ kind) = true := decide_eq_true hk0
        have q1 : decide (kind < 8) = true := decide_eq_true hk8
        go_wp2_with fail
        refine (get_ab HAB0.out i).mono ?_
        rintro e w4 ⟨rfl, hb⟩
        have B4 := Lib.hid (HB.out.trans (hb.mono HB.out.size))
        have HAB4 := Lib.hid (HAB0.out.below hb)
        obtain ⟨c0, c1, c2, c3, _⟩ := HA0.out w4 B4.out
        clear hb
        go_wp2_with fail
        refine (begin_ab HAB4.out).mono ?_
        rintro e w' ⟨rfl, rfl⟩
        go_wp2_with fail
        refine (does_ab HAB4.out kind i k n hk0 hk8).mono ?_
        rintro e w5 ⟨rfl, hb⟩
        have B5 := Lib.hid (B4.out.trans (hb.mono B4.out.size))
        have HAB := Lib.hid (HAB4.out.below hb)
        clear hb
        go_wp2_with fail
        refine (depth_ab HAB.out).mono ?_
        rintro e w' ⟨rfl, rfl⟩
        go_wp2_with fail
        refine (cells_ab HAB.out).mono ?_
        rintro e w' ⟨rfl, rfl⟩
        go_wp2_with fail
        refine (touched_ab HAB.out).mono ?_
        rintro e w' ⟨rfl, rfl⟩
        go_wp2_with fail
        refine (copy_ab HAB.out).mono ?_
        rintro e w6 ⟨cp, rfl, hcp, hb⟩
        have HS := Lib.hid (set_ab hcp 0 0)
        have B6 := Lib.hid (B5.out.trans (hb.mono B5.out.size))
        clear hb hcp
        go_wp2_with fail
        refine HS.out.mono ?_
        rintro e w7 ⟨rfl, hb⟩
        have B7 := Lib.hid (B6.out.trans (hb.mono B6.out.size))
        clear hb
        go_wp2_with fail
        go_roundw
        case rel => exact ⟨q + 1, by omega, by go_num, B7.out⟩
        case measure => simp [RowKit.intOf]; omega
      by_cases hk0 : 0 ≤ kind
      · have q0 : decide (0 ≤ kind) = true := decide_eq_true hk0
        have q1 : decide (kind < 8) = false := decide_eq_false (fun h => hk ⟨hk0, h⟩)
        have q2 : 8 ≤ kind := by omega
        clear hk
        go_wp2_with fail
        refine (get_ab HAB0.out i).mono ?_
        rintro e w4 ⟨rfl, hb⟩
        have B4 := Lib.hid (HB.out.trans (hb.mono HB.out.size))
        have HAB := Lib.hid (HAB0.out.below hb)
        obtain ⟨c0, c1, c2, c3, _⟩ := HA0.out w4 B4.out
        clear hb
        go_wp2_with fail
        refine (begin_ab HAB.out).mono ?_
        rintro e w' ⟨rfl, rfl⟩
        go_wp2_with fail
        refine (depth_ab HAB.out).mono ?_
        rintro e w' ⟨rfl, rfl⟩
        go_wp2_with fail
        refine (cells_ab HAB.out).mono ?_
        rintro e w' ⟨rfl, rfl⟩
        go_wp2_with fail
        refine (touched_ab HAB.out).mono ?_
        rintro e w' ⟨rfl, rfl⟩
        go_wp2_with fail
        refine (copy_ab HAB.out).mono ?_
        rintro e w6 ⟨cp, rfl, hcp, hb⟩
        have HS := Lib.hid (set_ab hcp 0 0)
        have B6 := Lib.hid (B4.out.trans (hb.mono B4.out.size))
        clear hb hcp
        go_wp2_with fail
        refine HS.out.mono ?_
        rintro e w7 ⟨rfl, hb⟩
        have B7 := Lib.hid (B6.out.trans (hb.mono B6.out.size))
        clear hb
        go_wp2_with fail
        go_roundw
        case rel => exact ⟨q + 1, by omega, by go_num, B7.out⟩
        case measure => simp [RowKit.intOf]; omega
      · have q0 : decide (0 ≤ kind) = false := decide_eq_false hk0
        have q2 : kind < 0 := by omega
        clear hk
        go_wp2_with fail
        refine (get_ab HAB0.out i).mono ?_
        rintro e w4 ⟨rfl, hb⟩
        have B4 := Lib.hid (HB.out.trans (hb.mono HB.out.size))
        have HAB := Lib.hid (HAB0.out.below hb)
        obtain ⟨c0, c1, c2, c3, _⟩ := HA0.out w4 B4.out
        clear hb
        go_wp2_with fail
        refine (begin_ab HAB.out).mono ?_
        rintro e w' ⟨rfl, rfl⟩
        go_wp2_with fail
        refine (depth_ab HAB.out).mono ?_
        rintro e w' ⟨rfl, rfl⟩
        go_wp2_with fail
        refine (cells_ab HAB.out).mono ?_
        rintro e w' ⟨rfl, rfl⟩
        go_wp2_with fail
        refine (touched_ab HAB.out).mono ?_
        rintro e w' ⟨rfl, rfl⟩
        go_wp2_with fail
        refine (copy_ab HAB.out).mono ?_
        rintro e w6 ⟨cp, rfl, hcp, hb⟩
        have HS := Lib.hid (set_ab hcp 0 0)
        have B6 := Lib.hid (B4.out.trans (hb.mono B4.out.size))
        clear hb hcp
        go_wp2_with fail
        refine HS.out.mono ?_
        rintro e w7 ⟨rfl, hb⟩
        have B7 := Lib.hid (B6.out.trans (hb.mono B6.out.size))
        clear hb
        go_wp2_with fail
        go_roundw
        case rel => exact ⟨q + 1, by omega, by go_num, B7.out⟩
        case measure => simp [RowKit.intOf]; omega
    · obtain rfl : q = 2 := by omega
      clear hb
      go_wp2_with fail
      refine (awake_any wr).mono ?_
      rintro e w4 ⟨rfl, hb⟩
      have B4 := Lib.hid (HB.out.trans (hb.mono HB.out.size))
      clear hb
      go_wp2_with fail
      go_ret
      exact ⟨rfl, by rw [← HZ.out] at HB0; exact HB0.out.trans (B4.out.mono HB0.out.size)⟩
end Go.Proofs.Ytkpfnonacebmkaa
