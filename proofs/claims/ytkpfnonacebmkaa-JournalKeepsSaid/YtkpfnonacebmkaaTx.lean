/- One more list on the list of lists; two journals to begin with. -/
import Derived.Test.YtkpfnonacebmkaaTw
import Derived.Test.YtkpfnonacebmkaaAm
namespace Go.Proofs.Ytkpfnonacebmkaa
open Go.RowKit

theorem wpList_append_lrow {P : Program} {w : World} {ops : Array Oper} {rest : List Oper} {o : Oper} {a : Act} {Q : Exit → Act → World → Prop} (hgd : o.guard = none) (s x : Operand) (t : TypeId)
    (ho : o.op = .call { callee := .builtin .append, args := #[s, x], argTypes := #[t, t] })
    (e : TypeId) (i : TypeInfo) (z : Value) (size bytes : Nat) (ht : P.underlying t = some (.slice e)) (hi : P.info? e = some i) (hz : i.zero = some z)
    (hsize : i.size = size) (hby : i.bytes = bytes) (hzs : z.cells.size = size) (hsz : 0 < size)
    (v : Value) (n : Nat) (xs : List Value) (hs : a.eval s = v) (hown : LRow w e size v n xs)
    (ad : Addr) (m c : Nat) (news : List Value) (hx : a.eval x = .slice (some ad) m c) (hl : news.length = m * size) (hnews : ∀ j u, news[j]? = some u → w.cell? (ad.add j) = some u) (h1 : ∀ u ∈ news, u.oneCell' = true)
    (hm : 0 < m) (h63 : n + m ≤ maxLen) (hbytes : (n + m) * bytes ≤ 140737488355328) (H : Nat) (hH : w.heap.size = H)
    (h : ∀ g cap w', LRow w' e size (.slice (some ⟨g, 0, none⟩) (n + m) cap) (n + m) (xs ++ news) → w.grownBy w' v.ownBlock → (v.ownBlock = some g ∨ g = H) → g < w'.heap.size → wpList P ops Q rest (a.put o.dst (.slice (some ⟨g, 0, none⟩) (n + m) cap)) w') :
    wpList P ops Q (o :: rest) a w :=
  wpList_plain hgd fun K hK => wp_append_lrow s x t ho e i z size bytes ht hi hz hsize hby hzs hsz v n xs hs hown ad m c news hx hl hnews h1 hm h63 hbytes H hH fun g cap w' a1 a2 a3 a4 => hK _ _ (h g cap w' a1 a2 a3 a4)

theorem OwnW.at {w : World} {base cap : Nat} {ao : Option Addr} {l : List Int} (h : OwnW w base ao cap l) (h0 : l.length ≠ 0) : ∃ b, ao = some ⟨b, 0, none⟩ ∧ base ≤ b ∧ b < w.heap.size := by
  rcases h.2 with ⟨_, h1⟩ | ⟨g, c, cur, h1, h2, h3, _⟩
  · exact absurd h1 h0
  · simp only [Value.slice.injEq, true_and] at h1
    exact ⟨g, h1.1, h2, (Array.getElem?_eq_some_iff.1 h3).1⟩
section
variable {W w w6 w' : World} {G X M1 F1 M2 F2 : Nat → Prop} {rj rk : Nat} {J K : JS} {wo : Option Addr} {wc : Nat} {vs : List Value} {ws : List (List Int)}
theorem Tw.pushed {b cap g wc' n : Nat} {l : List Int} {ob : Obj} (hn : ws.length = n) (hG : ∀ k, G k → X k) (h : Tw W X M1 F1 M2 F2 rj rk J K wo wc vs ws w) (hown : OwnW w6 w.heap.size (some ⟨b, 0, none⟩) cap l) (hlo : w.heap.size ≤ b) (hlt : b < w6.heap.size) (hb : Below w.heap.size w w6)
    (hrow : LRow w' 43 1 (.slice (some ⟨g, 0, none⟩) (n + 1) wc') (n + 1) (vs ++ [.slice (some ⟨b, 0, none⟩) l.length cap])) (hgr : (w6.alloc ob).grownBy w' (Value.slice wo n wc).ownBlock)
    (hg : (Value.slice wo n wc).ownBlock = some g ∨ g = (w6.alloc ob).heap.size) (hgl : g < w'.heap.size) : Tws W G rj rk J K (some ⟨g, 0, none⟩) wc' (l :: ws) w' ∧ Kept G w w' := by
  subst hn
  have hb1 : Below w.heap.size w (w6.alloc ob) := hb.alloc hb.size ob
  have ow : ∀ k, (Value.slice wo ws.length wc).ownBlock = some k → wo = some ⟨k, 0, none⟩ := fun k hk => row_own hk h.row
  have wow : ∀ k, wo = some ⟨k, 0, none⟩ → (Value.slice wo ws.length wc).ownBlock = some k := fun k hk => by rw [hk]; rfl
  have hrd : Rd (w6.alloc ob) (some ⟨b, 0, none⟩) l := hown.rd.keptAt (heap_old w6 ob hlt)
  refine Tw.push hG h ⟨hlo, by simp; omega⟩ hb1 hrd (Nat.le_refl _) hrow hgl (fun k hk hn => hgr.block k hk fun e => ?_) hgr.size ?_ (hg.imp (ow g) id)
  · have := ow k e.symm
    exact hn k this rfl
  · exact ⟨hgr.os, hgr.tape, hgr.output, hgr.size, fun k hk => hgr.block k (by have := h.b.size; have := hb1.size; omega) fun e => by
      have := (h.r k (ow k e.symm)).1
      omega⟩
/-- Two new journals of a call's own, and no list. -/
theorem Tws.start {w1 w2 : World} {r : Nat} (h1 : Jo w (fun k => k < w.heap.size) rj J w1) (h2 : Jo w1 (fun k => k < w1.heap.size) r K w2) (hb : Below W.heap.size W w) : Tws W (fun _ => False) rj r J K none 0 [] w2 := by
  obtain ⟨M1, F1, a⟩ := h1
  obtain ⟨M2, F2, b⟩ := h2
  have hfl := a.jn.fl'
  have hz := hb.size
  have hz1 := a.b.size
  exact ⟨fun _ => False, M1, F1, M2, F2, [], fun _ h => h.elim, a.jn.below b.b, b.jn, fun k hk => by have := a.lo k (a.jn.mf k hk); omega, fun k hk => by have := b.lo k (b.jn.mf k hk); omega, (hb.trans (a.b.mono hz)).trans (b.b.mono (by omega)),
    fun k hk hk2 => (b.g k (hfl k hk)).2 hk2, fun _ h => h.elim, LRow.nil _ _ _, fun g h => (by cases h), ⟨rfl, fun i l h => by simp at h⟩⟩
/-- The last list of the row: the topmost. -/
theorem Tws.top {l : List Int} (h : Tws W G rj rk J K wo wc (l :: ws) w) : ∃ g b o cap, wo = some ⟨g, 0, none⟩ ∧ w.cell? ⟨g, ws.length, none⟩ = some (.slice (some ⟨b, o, none⟩) l.length cap) ∧ Rd w (some ⟨b, o, none⟩) l :=
  h.at (by rw [List.reverse_cons, List.getElem?_append_right (by simp)]; simp)
theorem Tws.nth {pre : List (List Int)} {l : List Int} (h : Tws W G rj rk J K wo wc (pre ++ l :: ws) w) : ∃ g b o cap, wo = some ⟨g, 0, none⟩ ∧ w.cell? ⟨g, ws.length, none⟩ = some (.slice (some ⟨b, o, none⟩) l.length cap) ∧ Rd w (some ⟨b, o, none⟩) l :=
  h.at (by rw [List.reverse_append, List.reverse_cons, List.append_assoc, List.getElem?_append_right (by simp)]; simp)
end
end Go.Proofs.Ytkpfnonacebmkaa
