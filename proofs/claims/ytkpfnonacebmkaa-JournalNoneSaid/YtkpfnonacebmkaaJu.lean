/- What a journal's parts become behind a write. -/
import Derived.Test.YtkpfnonacebmkaaJr
namespace Go.Proofs.Ytkpfnonacebmkaa
open Go.RowKit

theorem lv_len {w : World} {e : TypeId} {size : Nat} {v : Value} {n : Nat} {xs : List Value} (h : LRow w e size v n xs) : ∃ lo lc, v = .slice lo n lc ∧ v.ownBlock = lo.map (·.block) := by
  rcases h.2 with ⟨rfl, rfl⟩ | ⟨g, cap, cur, rfl, _⟩
  · exact ⟨none, 0, rfl, rfl⟩
  · exact ⟨_, _, rfl, rfl⟩
theorem ne_map {W : World} {a b : Nat} {cs : Array Value} {t : TypeId} {m : Nat × Nat} {es : Array MapEntry} {clock : Nat} (ha : W.heap[a]? = some (.cells cs t m)) (hb : W.heap[b]? = some (.map es clock)) : a ≠ b := fun e => by
  subst e; rw [ha] at hb; cases hb
theorem grown_set {W : World} {r k : Nat} (v : Value) : W.grownBy (W.setCell ⟨r, k, none⟩ v) (some r) :=
  ⟨rfl, rfl, rfl, by simp [World.setCell], fun j _ hj => Below.heap_setCell _ _ _ j (fun e => hj (by rw [e]))⟩
theorem heap3_set0 {w : World} {b : Nat} {v0 v1 v2 : Value} {t : TypeId} (h : w.heap[b]? = some (.cells #[v0, v1, v2] t (0, 0))) (x : Value) :
    (w.setCell ⟨b, 0, none⟩ x).heap[b]? = some (.cells #[x, v1, v2] t (0, 0)) := by simp [World.setCell, Array.getElem?_modify, h]
theorem heap3_set1 {w : World} {b : Nat} {v0 v1 v2 : Value} {t : TypeId} (h : w.heap[b]? = some (.cells #[v0, v1, v2] t (0, 0))) (x : Value) :
    (w.setCell ⟨b, 1, none⟩ x).heap[b]? = some (.cells #[v0, x, v2] t (0, 0)) := by simp [World.setCell, Array.getElem?_modify, h]
theorem heap3_set2 {w : World} {b : Nat} {v0 v1 v2 : Value} {t : TypeId} (h : w.heap[b]? = some (.cells #[v0, v1, v2] t (0, 0))) (x : Value) :
    (w.setCell ⟨b, 2, none⟩ x).heap[b]? = some (.cells #[v0, v1, x] t (0, 0)) := by simp [World.setCell, Array.getElem?_modify, h]

section
variable {W : World} {M F : Nat → Prop} {r : Nat} {J : JS} {cb cc : Nat} {ps : List Nat} {lv : Value} {bs : List Nat}
theorem Jg.r_cb (h : Jg W M F r J cb cc ps lv bs) : r ≠ cb := by
  obtain ⟨cur, hc⟩ := h.cells.typed
  exact ne_of_types h.hr hc (by decide)
theorem Jg.row_ne (h : Jg W M F r J cb cc ps lv bs) {g : Nat} (hg : lv.ownBlock = some g) : g ≠ r ∧ g ≠ cb := by
  obtain ⟨cur, hc⟩ := h.cells.typed
  obtain ⟨cur', hr⟩ := h.row.lt hg
  exact ⟨ne_of_types hr h.hr (by decide), ne_of_types hr hc (by decide)⟩
theorem Jg.map_ne (h : Jg W M F r J cb cc ps lv bs) {b : Nat} (hb : b ∈ bs) : b ≠ r ∧ b ≠ cb ∧ ∀ g, lv.ownBlock = some g → b ≠ g := by
  obtain ⟨es, clock, hm⟩ := h.sets.isMap b hb
  obtain ⟨cur, hc⟩ := h.cells.typed
  refine ⟨(ne_map h.hr hm).symm, (ne_map hc hm).symm, fun g hg => ?_⟩
  obtain ⟨cur', hr⟩ := h.row.lt hg
  exact (ne_map hr hm).symm

/-- A cell is written. -/
theorem Jg.setC (h : Jg W M F r J cb cc ps lv bs) {i : Nat} (hi : i < J.C.length) {n : Int} (hn : W64 n) : Jg (W.setCell ⟨cb, i, none⟩ (.int .u64 n)) M F r { J with C := J.C.set i n } cb cc ps lv bs := by
  have hg : W.grownBy (W.setCell ⟨cb, i, none⟩ (.int .u64 n)) (some cb) := grown_set _
  have hk : ∀ k, k < W.heap.size → k ≠ cb → (W.setCell ⟨cb, i, none⟩ (.int .u64 n)).heap[k]? = W.heap[k]? := fun k hk hne => hg.block k hk (fun e => hne (by cases e; rfl))
  have hst := (World.ownsRow.stored h.cells i (.int .u64 n)).1
  have hsz : (W.setCell ⟨cb, i, none⟩ (.int .u64 n)).heap.size = W.heap.size := by simp [World.setCell]
  refine ⟨?_, ?_, ?_, ?_, ?_, h.nd, h.mr, h.mc, h.ml, h.mb, h.mf, fun k hk => by rw [hsz]; exact h.fl k hk, ?_⟩
  · simp only [List.length_set]; exact (hk _ (lt_of_block h.hr) h.r_cb).trans h.hr
  · unfold OwnC; simp only [List.length_set]; rw [List.map_set]; exact hst
  · exact h.chain.kept (fun k hk' => hk k (h.fl k hk'.1) (fun e => hk'.2 (e ▸ h.mc))) (fun _ h => h)
  · exact h.row.kept fun g hg => by
      obtain ⟨cur, hr⟩ := h.row.lt hg
      exact hk g (lt_of_block hr) (h.row_ne hg).2
  · simp only [List.length_set]
    exact h.sets.kept fun b hb => hk b (h.fl _ (h.mf _ (h.mb b hb))) (h.map_ne hb).2.1
  · exact ⟨by simpa using h.ok.pos, by simpa using h.ok.most, h.ok.ws.set i hn, fun p hp => by simpa using h.ok.us p hp, fun p hp x hx => by simpa using h.ok.ts p hp x hx, h.ok.ms, h.ok.dp, h.ok.mo⟩

/-- A change is noted: a new node. -/
theorem Jg.push (h : Jg W M F r J cb cc ps lv bs) {p ib ob i : Nat} {o : Int} {F' : Nat → Prop}
    (hp : W.heap[p]? = some (.cells #[fnv ob ib, .pointer (hd ps)] 93 (0, 0))) (hib : W.heap[ib]? = some (.cells #[.int .i64 i] 3 (0, 0))) (hob : W.heap[ob]? = some (.cells #[.int .u64 o] 33 (0, 0)))
    (hF : ∀ k, F k → F' k) (hF' : ∀ k, F' k → k < W.heap.size) (kp : F' p ∧ ¬ M p) (ki : F' ib ∧ ¬ M ib) (ko : F' ob ∧ ¬ M ob) (hlt : ∀ q ∈ ps, q < p) (hi : i < J.C.length) (ho : W64 o) :
    Jg (W.setCell ⟨r, 1, none⟩ (.pointer (some ⟨p, 0, none⟩))) M F' r { J with U := (i, o) :: J.U } cb cc (p :: ps) lv bs := by
  have hg : W.grownBy (W.setCell ⟨r, 1, none⟩ (.pointer (some ⟨p, 0, none⟩))) (some r) := grown_set _
  have hk : ∀ k, k < W.heap.size → k ≠ r → (W.setCell ⟨r, 1, none⟩ (.pointer (some ⟨p, 0, none⟩))).heap[k]? = W.heap[k]? := fun k hk hne => hg.block k hk (fun e => hne (by cases e; rfl))
  have hsz : (W.setCell ⟨r, 1, none⟩ (.pointer (some ⟨p, 0, none⟩))).heap.size = W.heap.size := by simp [World.setCell]
  have hlen := h.chain.length
  refine ⟨heap3_set1 h.hr _, h.cells.kept (hk cb (h.fl _ (h.mf _ h.mc)) h.r_cb.symm), ?_, ?_, ?_, h.nd, h.mr, h.mc, h.ml, h.mb, fun k hk => hF k (h.mf k hk), fun k hk => by rw [hsz]; exact hF' k hk, ?_⟩
  · refine ⟨⟨ib, ob, (hk p (lt_of_block hp) (fun e => kp.2 (e ▸ h.mr))).trans hp, (hk ib (lt_of_block hib) (fun e => ki.2 (e ▸ h.mr))).trans hib, (hk ob (lt_of_block hob) (fun e => ko.2 (e ▸ h.mr))).trans hob, kp, ki, ko⟩, hlt, ?_⟩
    exact h.chain.kept (fun k hk' => hk k (h.fl k hk'.1) (fun e => hk'.2 (e ▸ h.mr))) (fun k h => ⟨hF k h.1, h.2⟩)
  · rw [rowOf_push p fun q hq => by rw [hlen]; exact h.ok.ms q hq]
    exact h.row.kept fun g hg => by
      obtain ⟨cur, hr⟩ := h.row.lt hg
      exact hk g (lt_of_block hr) (h.row_ne hg).1
  · exact h.sets.kept fun b hb => hk b (h.fl _ (h.mf _ (h.mb b hb))) (h.map_ne hb).1
  · exact ⟨h.ok.pos, h.ok.most, h.ok.ws, fun q hq => by
      rcases List.mem_cons.1 hq with rfl | hq
      · exact ⟨hi, ho⟩
      · exact h.ok.us q hq, h.ok.ts, fun q hq => by have := h.ok.ms q hq; simp only [List.length_cons]; omega, h.ok.dp, h.ok.mo⟩

/-- The topmost level's set is written. -/
theorem Jg.touch (h : Jg W M F r J cb cc ps lv bs) {m : Nat} {T : List Nat} {L' : List (Nat × List Nat)} (hL : J.L = (m, T) :: L') {b : Nat} {bs' : List Nat} (hb : bs = b :: bs') {W' : World} (hg : W.grownBy W' (some b)) {T' : List Nat} (hT : TSet W' b J.C.length T') (ht : ∀ i ∈ T', i < J.C.length) :
    Jg W' M F r { J with L := (m, T') :: L' } cb cc ps lv bs := by
  subst hb
  have hk : ∀ k, k < W.heap.size → k ≠ b → W'.heap[k]? = W.heap[k]? := fun k hk hne => hg.block k hk (fun e => hne (by cases e; rfl))
  obtain ⟨n1, n2, n3⟩ := h.map_ne (List.mem_cons_self ..)
  have hs := h.sets
  have hr := h.row
  rw [hL] at hs hr
  have hnd := List.nodup_cons.1 h.nd
  refine ⟨(hk _ (lt_of_block h.hr) n1.symm).trans h.hr, h.cells.kept (hk cb (h.fl _ (h.mf _ h.mc)) n2.symm), ?_, ?_, ⟨hT, ?_⟩, h.nd, h.mr, h.mc, h.ml, h.mb, h.mf, fun k hk => Nat.lt_of_lt_of_le (h.fl k hk) hg.size, ?_⟩
  · exact h.chain.kept (fun k hk' => hk k (h.fl k hk'.1) (fun e => hk'.2 (e ▸ h.mb b (List.mem_cons_self ..)))) (fun _ h => h)
  · refine LRow.kept (xs := rowOf ps ((m, T') :: L') (b :: bs')) hr fun g hg => ?_
    obtain ⟨cur, hr⟩ := h.row.lt hg
    exact hk g (lt_of_block hr) (n3 g hg).symm
  · exact hs.2.kept fun c hc => hk c (h.fl _ (h.mf _ (h.mb c (List.mem_cons_of_mem _ hc)))) (fun e => hnd.1 (e ▸ hc))
  · exact ⟨h.ok.pos, h.ok.most, h.ok.ws, h.ok.us, fun q hq => by
      rcases List.mem_cons.1 hq with rfl | hq
      · exact ht
      · exact h.ok.ts q (by rw [hL]; exact List.mem_cons_of_mem _ hq), fun q hq => by
      rcases List.mem_cons.1 hq with rfl | hq
      · exact h.ok.ms (m, T) (by rw [hL]; exact List.mem_cons_self ..)
      · exact h.ok.ms q (by rw [hL]; exact List.mem_cons_of_mem _ hq), by have := h.ok.dp; rw [hL] at this; exact this, by have := h.ok.mo; rw [hL] at this; exact List.Pairwise.cons (List.pairwise_cons.1 this).1 (List.pairwise_cons.1 this).2⟩

/-- The newest change is dropped. -/
theorem Jg.pop {i : Nat} {o : Int} {U' : List (Nat × Int)} {p : Nat} {qs : List Nat} (h : Jg W M F r J cb cc (p :: qs) lv bs) (hU : J.U = (i, o) :: U') (hm : ∀ q ∈ J.L, q.1 ≤ U'.length) :
    Jg (W.setCell ⟨r, 1, none⟩ (.pointer (hd qs))) M F r { J with U := U' } cb cc qs lv bs := by
  have hg : W.grownBy (W.setCell ⟨r, 1, none⟩ (.pointer (hd qs))) (some r) := grown_set _
  have hk : ∀ k, k < W.heap.size → k ≠ r → (W.setCell ⟨r, 1, none⟩ (.pointer (hd qs))).heap[k]? = W.heap[k]? := fun k hk hne => hg.block k hk (fun e => hne (by cases e; rfl))
  have hsz : (W.setCell ⟨r, 1, none⟩ (.pointer (hd qs))).heap.size = W.heap.size := by simp [World.setCell]
  have hc := h.chain
  rw [hU] at hc
  obtain ⟨p', qs', ib, ob, e1, _, _, _, _, _, _, _, hc'⟩ := hc.tail
  obtain ⟨rfl, rfl⟩ := List.cons.inj e1
  have hlen := hc'.length
  refine ⟨heap3_set1 h.hr _, h.cells.kept (hk cb (h.fl _ (h.mf _ h.mc)) h.r_cb.symm), ?_, ?_, ?_, h.nd, h.mr, h.mc, h.ml, h.mb, h.mf, fun k hk => by rw [hsz]; exact h.fl k hk, ?_⟩
  · exact hc'.kept (fun k hk' => hk k (h.fl k hk'.1) (fun e => hk'.2 (e ▸ h.mr))) (fun _ h => h)
  · rw [← rowOf_push p fun q hq => by rw [hlen]; exact hm q hq]
    exact h.row.kept fun g hg => by
      obtain ⟨cur, hr⟩ := h.row.lt hg
      exact hk g (lt_of_block hr) (h.row_ne hg).1
  · exact h.sets.kept fun b hb => hk b (h.fl _ (h.mf _ (h.mb b hb))) (h.map_ne hb).1
  · exact ⟨h.ok.pos, h.ok.most, h.ok.ws, fun q hq => h.ok.us q (by rw [hU]; exact List.mem_cons_of_mem _ hq), h.ok.ts, hm, h.ok.dp, h.ok.mo⟩
end
end Go.Proofs.Ytkpfnonacebmkaa
