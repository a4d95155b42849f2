/- BankBytes returns true for every bank and every list of bytes, and its arguments read afterwards as they did. No condition. -/
import Derived.Test.YtjiffflhedekfaaRows
import Derived.Test.YtjiffflhedekfaaOpn
import Derived.Test.YtjiffflhedekfaaByM
import Derived.WalkKit
import Derived.ProofKit
import Derived.OpenShut
import Derived.ShutString
import Derived.ChangeOld
import Derived.Below
namespace Go.Proofs.Ytjiffflhedekfaa.bankBytes
open Go.ChangeShapes Go.WideShapes Go.ChangeAt Go.RowKit Go.Joins Go.Deep

theorem own : ownKnob Try.prog.godebug = none := by kernel_rfl
theorem laidOut : laidOutB Try.prog = true := by kernel_rfl

theorem byte_of {n : Int} (h : (Lit.int .u8 n).wf = true) : 0 ≤ n ∧ n < 256 := by
  have := bounds_u8 h
  omega
section
variable {H : Type} {enc : TypeId × Value → H} {w : World} {base fuel : Nat} {spare : Nat → Bool} {held : Bool} {cs : List Value} {x : DataW H × List MemPlace}
theorem open_bytes (h : DataW.trod enc Try.prog w base spare held fuel 43 cs = some x) :
    ∃ (ao : Option Addr) (l : List Int) (c : Nat), cs = [.slice ao l.length c] ∧ Rb w ao l ∧ Bs l ∧ l.length ≤ maxLen := by
  rcases open_ints Try.underlying43 Try.underlying5 (by kernel_rfl) h with ⟨rfl, _⟩ | ⟨a, len, cap, zs, rfl, _, hl, hm, hz, _, hcell, hwz⟩
  · exact ⟨none, [], 0, rfl, Rb.nil _ _, Bs.nil, by simp⟩
  · have hlen : (zs.take len).length = len := by
      rw [List.length_take, hz]; split <;> omega
    have hle : len ≤ zs.length := by rw [hz]; split <;> omega
    refine ⟨some a, zs.take len, cap, by rw [hlen], ?_, fun n hn => byte_of (hwz n (List.mem_of_mem_take hn)), by omega⟩
    intro k hk
    have hc := hcell k (by omega)
    obtain ⟨b, off, rfl⟩ := spot_none (hcell 0 (by omega))
    refine ⟨b, off, rfl, ?_⟩
    rw [hlen] at hk
    have e : (zs.take len).getD k 0 = zs.getD k 0 := by
      rw [List.getD_eq_getElem?_getD, List.getElem?_take_of_lt hk, ← List.getD_eq_getElem?_getD]
    rw [e]
    exact add_at hc
end

theorem walk (ab ro : Option Addr) (B : Bk) (raw : List Int) (cb rc : Nat) (w : World) (hB : Rd w ab B.L) (hw : B.Wf) (hm : B.L.length ≤ maxLen) (hR : Rb w ro raw) (bR : Bs raw) (nR : raw.length ≤ maxLen) :
    Calls Try.prog 4 #[bval ab B cb, .slice ro raw.length rc] w fun e w' => e = .returned (.bool true) ∧ Below w.heap.size w w' := by
  unfold maxLen at hm nR
  by_cases h : 70 < B.L.length ∨ 800 < raw.length
  · exact bankBytes_far ab ro _ _ cb rc _ _ _ _ w h hm nR
  · exact bankBytes_near ab ro B raw cb rc w hB hw (by omega) hR bR (by omega)

set_option maxRecDepth 100000 in
theorem lifted (os : Os) (started : os.Started) (H : Type) (enc : TypeId × Value → H) :
    ReturnsInHanded {} Try.checked os 4 .any (Rows.bankBytesSpec.pre6 enc Try.prog Try.f4 Rows.bankBytesRow.domain false) (Rows.bankBytesSpec.post enc Try.prog Try.f4 false true false false) := by
  refine returnsInHanded_of_change (C := Try.checked) own started (by kernel_rfl) Try.func4
    (ChangeSpec.witness6 (enc := enc) (C := Try.checked) false ⟨#[], #[.agg #[.slice none 0 0, .int .u64 0, .int .u64 0, .int .u64 0, .int .u64 0], .slice none 0 0], []⟩ 8 (by kernel_rfl) (by kernel_rfl) (by kernel_rfl) (by kernel_rfl)) ?_
  intro W base args ds gs before hval0 hW hcnd _
  have hval : ∀ (j : Nat) t v, Try.f4.params[j]? = some t → args[j]? = some v → Value.okWide Try.prog W .any base t v := hval0
  have hW' := hW
  obtain ⟨p, q, hA0, hV, rfl, hfz, hnd⟩ := hW
  have hA : DataW.TrodAll enc Try.prog W 0 (fun _ => true) true Try.f4.params.toList args.toList ds p := hA0
  rw [Try.params4] at hA hval
  obtain ⟨v0, vs0, d0, ds0, p0, q0, hargs, rfl, rfl, h0, r0⟩ := trodAll_cons hA
  obtain ⟨v1, vs1, d1, ds1, p1, q1, rfl, rfl, rfl, h1, r1⟩ := trodAll_cons r0
  obtain ⟨rfl, rfl, rfl⟩ := trodAll_nil r1
  obtain rfl : args = #[v0, v1] := by cases args; simp_all
  obtain ⟨rfl, rfl⟩ := trodVars_none hV
  have k0 := h0
  have lt0 : ∀ x ∈ p0, x.block < W.heap.size := by obtain ⟨m, hm⟩ := k0; exact DataW.trod_lt m _ _ _ hm
  have k1 := h1
  have lt1 : ∀ x ∈ p1, x.block < W.heap.size := by obtain ⟨m, hm⟩ := k1; exact DataW.trod_lt m _ _ _ hm
  obtain ⟨ab, B, cb, rfl, hB, hw, hm, hlt⟩ := open_bank (hval 0 26 v0 rfl rfl) h0
  obtain ⟨a1, len1, cap1, rfl⟩ := okWide_slice Try.underlying43 (hval 1 43 v1 rfl rfl)
  obtain ⟨l, hl1, hR1, hB1, hm1⟩ : ∃ l : List Int, l.length = len1 ∧ Rb W a1 l ∧ Bs l ∧ l.length ≤ maxLen := by
    obtain ⟨fuel, hf⟩ := h1
    obtain ⟨ao, l, c, hcs, h1, h2, h3⟩ := open_bytes hf
    simp [Value.cells] at hcs
    obtain ⟨rfl, rfl, rfl⟩ := hcs
    exact ⟨l, rfl, h1, h2, h3⟩
  subst hl1
  clear hA0 hval0
  refine (walk ab a1 B l cb cap1 W hB hw hm hR1 hB1 hm1).mono fun e W' ⟨he, bel⟩ => ?_
  subst he
  exact ⟨_, rfl, _, _, _, [], _, [], hW', trodAll_mk1 (shut_bool Try.underlying4 _), (trodAll_cons_mk (Below.trod laidOut (by kernel_rfl) (of_decide_eq_true (by kernel_rfl)) k0 bel lt0)
    (trodAll_cons_mk (Below.trod laidOut (by kernel_rfl) (of_decide_eq_true (by kernel_rfl)) k1 bel lt1) trodAll_mk0)), rfl, bel.frame _, fun h => by cases h⟩

theorem over : Rows.bankBytesRow.holds Try.pinned (OpenSpec.ofChange Rows.bankBytesSpec) :=
  OpenClaim.holds_of_wide 4 Try.f4 rfl rfl rfl rfl rfl rfl rfl ⟨rfl, rfl, rfl, rfl, rfl⟩ rfl rfl rfl rfl rfl (by kernel_rfl) Try.func4 (by kernel_rfl)
    (of_decide_eq_true (by kernel_rfl)) (by unfold Func.isWrapper; first | (rw [if_pos (by decide +kernel)]; kernel_rfl) | (rw [if_neg (by decide +kernel)]; exact ⟨rfl, rfl⟩))
    (fun os started H enc _ => lifted os started H enc)

theorem proved : Rows.BankBytesSaid := over
#print axioms proved
end Go.Proofs.Ytjiffflhedekfaa.bankBytes
