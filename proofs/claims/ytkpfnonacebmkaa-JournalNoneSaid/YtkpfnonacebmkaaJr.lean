/- How a journal lies in memory. -/
import Derived.Test.YtkpfnonacebmkaaJs
import Derived.Test.YtkpfnonacebmkaaLr
import Derived.Test.YtkpfnonacebmkaaIn
import Derived.Maps.OwnSet
import Derived.Lib.SlKeysI
namespace Go.Proofs.Ytkpfnonacebmkaa
open Go.RowKit

theorem heap_at (w : World) (o : Obj) {k : Nat} (h : k = w.heap.size) : (w.alloc o).heap[k]? = some o := by subst h; exact heap_alloc_new w o
theorem heap_old (w : World) (o : Obj) {k : Nat} (h : k < w.heap.size) : (w.alloc o).heap[k]? = w.heap[k]? := Below.heap_alloc w o k h
theorem lt_of_block {w : World} {b : Nat} {o : Obj} (h : w.heap[b]? = some o) : b < w.heap.size := (Array.getElem?_eq_some_iff.1 h).1
theorem three {w : World} {b : Nat} {v0 v1 v2 : Value} {t : TypeId} (h : w.heap[b]? = some (.cells #[v0, v1, v2] t (0, 0))) :
    w.cell? ⟨b, 0, none⟩ = some v0 ∧ w.cell? ⟨b, 1, none⟩ = some v1 ∧ w.cell? ⟨b, 2, none⟩ = some v2 ∧ w.frozen? ⟨b, 0, none⟩ = false ∧ w.frozen? ⟨b, 1, none⟩ = false ∧ w.frozen? ⟨b, 2, none⟩ = false := by
  simp [World.cell?, World.frozen?, h]
theorem two {w : World} {b : Nat} {v0 v1 : Value} {t : TypeId} (h : w.heap[b]? = some (.cells #[v0, v1] t (0, 0))) :
    w.cell? ⟨b, 0, none⟩ = some v0 ∧ w.cell? ⟨b, 1, none⟩ = some v1 ∧ w.frozen? ⟨b, 0, none⟩ = false ∧ w.frozen? ⟨b, 1, none⟩ = false := by
  simp [World.cell?, World.frozen?, h]
theorem one {w : World} {b : Nat} {v0 : Value} {t : TypeId} (h : w.heap[b]? = some (.cells #[v0] t (0, 0))) :
    w.cell? ⟨b, 0, none⟩ = some v0 ∧ w.frozen? ⟨b, 0, none⟩ = false := by
  simp [World.cell?, World.frozen?, h]
theorem ne_of_types {W : World} {a b : Nat} {cs ds : Array Value} {t u : TypeId} {m n : Nat × Nat} (ha : W.heap[a]? = some (.cells cs t m)) (hb : W.heap[b]? = some (.cells ds u n)) (h : t ≠ u) : a ≠ b := fun e => by
  subst e
  rw [ha] at hb
  simp only [Option.some.injEq, Obj.cells.injEq] at hb
  exact h hb.2.1

/-- A set of cells' numbers, kept as a map. -/
def TSet (W : World) (b N : Nat) (T : List Nat) : Prop :=
  ∃ D : DataW Unit, W.ownsMap Try.prog 3 unitElem b N D ∧ ∀ x : Int, Maps.has D (.int .i64 x) = true ↔ ∃ t ∈ T, (t : Int) = x
theorem TSet.lt {W : World} {b N : Nat} {T : List Nat} (h : TSet W b N T) : b < W.heap.size := by obtain ⟨D, h, _⟩ := h; exact h.lt
theorem TSet.kept {W W' : World} {b N : Nat} {T : List Nat} (h : TSet W b N T) (hk : W'.heap[b]? = W.heap[b]?) : TSet W' b N T := by
  obtain ⟨D, ⟨es, clock, h1, r⟩, h2⟩ := h
  exact ⟨D, ⟨es, clock, hk.trans h1, r⟩, h2⟩
/-- No more entries than there are numbers to be had. -/
theorem ownsMap_tight {W : World} {b n N : Nat} {D : DataW Unit} {R : Value → Option (DataW Unit × List MemPlace)} (h : W.ownsMap Try.prog 3 R b n D) (hb : ∀ x : Int, Maps.has D (.int .i64 x) = true → 0 ≤ x ∧ x < N) : W.ownsMap Try.prog 3 R b N D := by
  have hsz : Maps.size D ≤ N := by
    obtain ⟨es, hD, hpw, _⟩ := h.entries (Maps.int_keyed Try.underlying3)
    obtain ⟨es', hD', hko⟩ := h.keysOf
    obtain rfl : es = es' := by rw [hD] at hD'; simpa using hD'
    subst hD
    have hp := perm_intKeys hpw (fun p hp => by obtain ⟨v, hv⟩ := hko p hp; obtain ⟨x, _, hx, _⟩ := Maps.keyOf_i64 Try.underlying3 hv; exact ⟨x, hx⟩)
      (ss := ((List.range N).map fun t : Nat => (t : Int)).filter fun x => Maps.has (.map es) (.int .i64 x))
      (List.Pairwise.filter _ (List.pairwise_map.2 (List.nodup_range.imp fun hne e => hne (by omega))))
      (fun x => by
        rw [List.mem_filter, List.mem_map]
        constructor
        · exact fun h => h.2
        · intro hx
          have := hb x hx
          exact ⟨⟨x.toNat, by rw [List.mem_range]; omega, by omega⟩, hx⟩)
    have hl := hp.length_eq
    have h1 : (intKeys (.map es : DataW Unit)).length = es.length := by simp [intKeys]
    have h2 := List.length_filter_le (fun x : Int => Maps.has (.map es : DataW Unit) (.int .i64 x)) ((List.range N).map fun t : Nat => (t : Int))
    rw [List.length_map, List.length_range] at h2
    rw [Maps.size_eq]
    omega
  obtain ⟨es, clock, h1, F, hs, rfl⟩ := h
  exact ⟨es, clock, h1, F, by simpa [Maps.size, length_sorted] using hsz, rfl⟩

/-- A pointer to the first of some nodes. -/
def hd : List Nat → Option Addr
  | [] => none
  | p :: _ => some ⟨p, 0, none⟩
def fnv (ob ib : Nat) : Value := .func (.func 66) #[] #[.pointer (some ⟨ob, 0, none⟩), .pointer (some ⟨ib, 0, none⟩)]
/-- The changes, node by node: each lies above those behind it. -/
def Chain (W : World) (ok : Nat → Prop) : List Nat → List (Nat × Int) → Prop
  | [], [] => True
  | p :: ps, (i, o) :: U => (∃ ib ob, W.heap[p]? = some (.cells #[fnv ob ib, .pointer (hd ps)] 93 (0, 0)) ∧ W.heap[ib]? = some (.cells #[.int .i64 i] 3 (0, 0)) ∧ W.heap[ob]? = some (.cells #[.int .u64 o] 33 (0, 0)) ∧ ok p ∧ ok ib ∧ ok ob) ∧
      (∀ q ∈ ps, q < p) ∧ Chain W ok ps U
  | _, _ => False
theorem Chain.length {W : World} {ok : Nat → Prop} : ∀ {ps : List Nat} {U : List (Nat × Int)}, Chain W ok ps U → ps.length = U.length
  | [], [], _ => rfl
  | _ :: _, _ :: _, h => by simp [Chain.length h.2.2]
  | [], _ :: _, h => absurd h (by simp [Chain])
  | _ :: _, [], h => absurd h (by simp [Chain])
theorem Chain.kept {W W' : World} {ok ok' : Nat → Prop} (hk : ∀ k, ok k → W'.heap[k]? = W.heap[k]?) (ho : ∀ k, ok k → ok' k) : ∀ {ps : List Nat} {U : List (Nat × Int)}, Chain W ok ps U → Chain W' ok' ps U
  | [], [], _ => trivial
  | _ :: _, _ :: _, ⟨⟨ib, ob, h1, h2, h3, h4, h5, h6⟩, h7, h8⟩ => ⟨⟨ib, ob, (hk _ h4).trans h1, (hk _ h5).trans h2, (hk _ h6).trans h3, ho _ h4, ho _ h5, ho _ h6⟩, h7, Chain.kept hk ho h8⟩
  | [], _ :: _, h => absurd h (by simp [Chain])
  | _ :: _, [], h => absurd h (by simp [Chain])
theorem Chain.falls {W : World} {ok : Nat → Prop} : ∀ {ps : List Nat} {U : List (Nat × Int)}, Chain W ok ps U → ps.Pairwise (fun a b => b < a)
  | [], [], _ => List.Pairwise.nil
  | _ :: _, _ :: _, h => List.Pairwise.cons h.2.1 (Chain.falls h.2.2)
  | [], _ :: _, h => absurd h (by simp [Chain])
  | _ :: _, [], h => absurd h (by simp [Chain])
theorem Chain.lt {W : World} {ok : Nat → Prop} : ∀ {ps : List Nat} {U : List (Nat × Int)}, Chain W ok ps U → ∀ p ∈ ps, p < W.heap.size
  | [], [], _ => by simp
  | p :: ps, _ :: _, ⟨⟨ib, ob, h1, _⟩, _, h8⟩ => fun q hq => by
    rcases List.mem_cons.1 hq with rfl | hq
    · exact lt_of_block h1
    · exact Chain.lt h8 q hq
  | [], _ :: _, h => absurd h (by simp [Chain])
  | _ :: _, [], h => absurd h (by simp [Chain])
theorem Chain.tail {W : World} {ok : Nat → Prop} {ps : List Nat} {i : Nat} {o : Int} {U : List (Nat × Int)} (h : Chain W ok ps ((i, o) :: U)) : ∃ p qs ib ob, ps = p :: qs ∧ W.heap[p]? = some (.cells #[fnv ob ib, .pointer (hd qs)] 93 (0, 0)) ∧ W.heap[ib]? = some (.cells #[.int .i64 i] 3 (0, 0)) ∧ W.heap[ob]? = some (.cells #[.int .u64 o] 33 (0, 0)) ∧ ok p ∧ ok ib ∧ ok ob ∧ (∀ q ∈ qs, q < p) ∧ Chain W ok qs U := by
  cases ps with
  | nil => exact absurd h (by simp [Chain])
  | cons p qs =>
    obtain ⟨⟨ib, ob, h1, h2, h3, h4, h5, h6⟩, h7, h8⟩ := h
    exact ⟨p, qs, ib, ob, rfl, h1, h2, h3, h4, h5, h6, h7, h8⟩

/-- The open levels as they stand in their row, the topmost last. -/
def rowOf (ps : List Nat) : List (Nat × List Nat) → List Nat → List Value
  | [], _ => []
  | (m, _) :: L, b :: bs => rowOf ps L bs ++ [.pointer (hd (ps.drop (ps.length - m))), .map (some b)]
  | _ :: _, [] => []
def Sets (W : World) (N : Nat) : List (Nat × List Nat) → List Nat → Prop
  | [], [] => True
  | (_, T) :: L, b :: bs => TSet W b N T ∧ Sets W N L bs
  | _, _ => False
theorem Sets.length {W : World} {N : Nat} : ∀ {L : List (Nat × List Nat)} {bs : List Nat}, Sets W N L bs → bs.length = L.length
  | [], [], _ => rfl
  | _ :: _, _ :: _, h => by simp [Sets.length h.2]
  | [], _ :: _, h => absurd h (by simp [Sets])
  | _ :: _, [], h => absurd h (by simp [Sets])
theorem Sets.kept {W W' : World} {N : Nat} : ∀ {L : List (Nat × List Nat)} {bs : List Nat}, Sets W N L bs → (∀ b ∈ bs, W'.heap[b]? = W.heap[b]?) → Sets W' N L bs
  | [], [], _, _ => trivial
  | _ :: _, b :: bs, h, hk => ⟨h.1.kept (hk b (by simp)), Sets.kept h.2 fun c hc => hk c (by simp [hc])⟩
  | [], _ :: _, h, _ => absurd h (by simp [Sets])
  | _ :: _, [], h, _ => absurd h (by simp [Sets])
theorem Sets.isMap {W : World} {N : Nat} : ∀ {L : List (Nat × List Nat)} {bs : List Nat}, Sets W N L bs → ∀ b ∈ bs, ∃ es clock, W.heap[b]? = some (.map es clock)
  | [], [], _ => by simp
  | _ :: _, b :: bs, h => fun c hc => by
    rcases List.mem_cons.1 hc with rfl | hc
    · obtain ⟨⟨D, ⟨es, clock, h1, _⟩, _⟩, _⟩ := h; exact ⟨es, clock, h1⟩
    · exact Sets.isMap h.2 c hc
  | [], _ :: _, h => absurd h (by simp [Sets])
  | _ :: _, [], h => absurd h (by simp [Sets])
theorem rowOf_push {ps : List Nat} (p : Nat) : ∀ {L : List (Nat × List Nat)} {bs : List Nat}, (∀ q ∈ L, q.1 ≤ ps.length) → rowOf (p :: ps) L bs = rowOf ps L bs
  | [], _, _ => rfl
  | (m, T) :: L, b :: bs, h => by
    have hm : m ≤ ps.length := h _ (List.mem_cons_self ..)
    rw [rowOf, rowOf, rowOf_push p fun q hq => h q (List.mem_cons_of_mem _ hq), List.length_cons, show ps.length + 1 - m = ps.length - m + 1 by omega]
    rfl
  | _ :: _, [], _ => rfl
theorem rowOf_length {ps : List Nat} : ∀ {L : List (Nat × List Nat)} {bs : List Nat}, bs.length = L.length → (rowOf ps L bs).length = L.length * 2
  | [], _, _ => rfl
  | _ :: L, b :: bs, h => by
    have := rowOf_length (ps := ps) (L := L) (bs := bs) (by simpa using h)
    simp only [rowOf, List.length_append, List.length_cons, List.length_nil, this]; omega
  | _ :: _, [], h => by simp at h
theorem rowOf_touch (ps : List Nat) (i : Nat) (L : List (Nat × List Nat)) (bs : List Nat) : rowOf ps (JS.touch L i) bs = rowOf ps L bs := by
  cases L with
  | nil => rfl
  | cons x L => obtain ⟨m, T⟩ := x; cases bs <;> rfl
def OwnC (w : World) (b cap : Nat) (l : List Int) : Prop := w.ownsRow 0 33 1 (.slice (some ⟨b, 0, none⟩) l.length cap) l.length (l.map (Value.int .u64))

/-- A journal lies at r: M are the blocks that it may write, F all that it is made of. -/
structure Jg (W : World) (M F : Nat → Prop) (r : Nat) (J : JS) (cb cc : Nat) (ps : List Nat) (lv : Value) (bs : List Nat) : Prop where
  hr : W.heap[r]? = some (.cells #[.slice (some ⟨cb, 0, none⟩) J.C.length cc, .pointer (hd ps), lv] 65 (0, 0))
  cells : OwnC W cb cc J.C
  chain : Chain W (fun k => F k ∧ ¬ M k) ps J.U
  row : LRow W 73 2 lv J.L.length (rowOf ps J.L bs)
  sets : Sets W J.C.length J.L bs
  nd : bs.Nodup
  mr : M r
  mc : M cb
  ml : ∀ g, lv.ownBlock = some g → M g
  mb : ∀ b ∈ bs, M b
  mf : ∀ k, M k → F k
  fl : ∀ k, F k → k < W.heap.size
  ok : J.Ok
def Jn (W : World) (M F : Nat → Prop) (r : Nat) (J : JS) : Prop := ∃ cb cc ps lv bs, Jg W M F r J cb cc ps lv bs

theorem OwnC.kept {W W' : World} {b cap : Nat} {l : List Int} (h : OwnC W b cap l) (hk : W'.heap[b]? = W.heap[b]?) : OwnC W' b cap l :=
  ⟨h.1, h.2.imp id fun ⟨g, c, cur, h1, h2, h3, r⟩ => ⟨g, c, cur, h1, h2, by
    simp only [Value.slice.injEq, Option.some.injEq, Addr.mk.injEq, true_and, and_true] at h1
    rw [← h1.1] at h3 ⊢
    exact hk.trans h3, r⟩⟩
theorem OwnC.typed {W : World} {b cap : Nat} {l : List Int} (h : OwnC W b cap l) : ∃ cur, W.heap[b]? = some (.cells cur 33 (0, 0)) := by
  rcases h.2 with ⟨h1, _⟩ | ⟨g, c, cur, h1, _, h3, _⟩
  · simp at h1
  · simp only [Value.slice.injEq, Option.some.injEq, Addr.mk.injEq, true_and, and_true] at h1
    rw [← h1.1] at h3
    exact ⟨cur, h3⟩
theorem OwnC.rd {W : World} {b cap : Nat} {l : List Int} (h : OwnC W b cap l) : Rd W (some ⟨b, 0, none⟩) l := OwnW.rd (base := 0) h
theorem OwnC.cell {W : World} {b cap : Nat} {l : List Int} (h : OwnC W b cap l) {k : Nat} (hk : k < l.length) : W.cell? ⟨b, k, none⟩ = some (.int .u64 (l.getD k 0)) ∧ W.frozen? ⟨b, k, none⟩ = false := by
  obtain ⟨b', o, h1, h2⟩ := h.rd k hk
  simp only [Option.some.injEq, Addr.mk.injEq, and_true] at h1
  obtain ⟨rfl, rfl⟩ := h1
  rw [Nat.zero_add] at h2
  obtain ⟨cur, hc⟩ := h.typed
  exact ⟨h2, by simp [World.frozen?, hc]⟩
/-- Nothing that a journal is made of has turned. -/
theorem Jg.kept {W W' : World} {M F : Nat → Prop} {r : Nat} {J : JS} {cb cc : Nat} {ps : List Nat} {lv : Value} {bs : List Nat} (h : Jg W M F r J cb cc ps lv bs) (hs : W.heap.size ≤ W'.heap.size) (hk : ∀ k, F k → W'.heap[k]? = W.heap[k]?) : Jg W' M F r J cb cc ps lv bs :=
  ⟨(hk _ (h.mf _ h.mr)).trans h.hr, h.cells.kept (hk _ (h.mf _ h.mc)), h.chain.kept (fun k hk' => hk k hk'.1) (fun _ h => h), h.row.kept fun g hg => hk g (h.mf _ (h.ml g hg)), h.sets.kept fun b hb => hk b (h.mf _ (h.mb b hb)), h.nd, h.mr, h.mc, h.ml, h.mb, h.mf, fun k hk' => Nat.lt_of_lt_of_le (h.fl k hk') hs, h.ok⟩
theorem Jg.below {W W' : World} {M F : Nat → Prop} {r : Nat} {J : JS} {cb cc : Nat} {ps : List Nat} {lv : Value} {bs : List Nat} (h : Jg W M F r J cb cc ps lv bs) (hb : Below W.heap.size W W') : Jg W' M F r J cb cc ps lv bs :=
  h.kept hb.size fun k hk => hb.block k (h.fl k hk)
theorem Jn.kept {W W' : World} {M F : Nat → Prop} {r : Nat} {J : JS} (h : Jn W M F r J) (hs : W.heap.size ≤ W'.heap.size) (hk : ∀ k, F k → W'.heap[k]? = W.heap[k]?) : Jn W' M F r J := by
  obtain ⟨cb, cc, ps, lv, bs, h⟩ := h; exact ⟨cb, cc, ps, lv, bs, h.kept hs hk⟩
theorem Jn.below {W W' : World} {M F : Nat → Prop} {r : Nat} {J : JS} (h : Jn W M F r J) (hb : Below W.heap.size W W') : Jn W' M F r J := by
  obtain ⟨cb, cc, ps, lv, bs, h⟩ := h; exact ⟨cb, cc, ps, lv, bs, h.below hb⟩

/-- A call that writes blocks of M alone, and hands on what it makes. -/
structure Stp (W W' : World) (M M' F F' : Nat → Prop) : Prop where
  os : W'.os = W.os
  tape : W'.tape = W.tape
  output : W'.output = W.output
  size : W.heap.size ≤ W'.heap.size
  block : ∀ k, k < W.heap.size → ¬ M k → W'.heap[k]? = W.heap[k]?
  mm : ∀ k, M' k → M k ∨ W.heap.size ≤ k
  ff : ∀ k, F' k → F k ∨ W.heap.size ≤ k
theorem Stp.of_below {W W' : World} (M F : Nat → Prop) (h : Below W.heap.size W W') : Stp W W' M M F F :=
  ⟨h.os, h.tape, h.output, h.size, fun k hk _ => h.block k hk, fun _ h => .inl h, fun _ h => .inl h⟩
theorem Stp.of_grown {W W' : World} {M : Nat → Prop} (F : Nat → Prop) {g : Nat} (hg : W.grownBy W' (some g)) (hm : M g) : Stp W W' M M F F :=
  ⟨hg.os, hg.tape, hg.output, hg.size, fun k hk hn => hg.block k hk (fun e => hn (by cases e; exact hm)), fun _ h => .inl h, fun _ h => .inl h⟩
theorem Stp.trans {W W1 W2 : World} {M M1 M2 F F1 F2 : Nat → Prop} (h : Stp W W1 M M1 F F1) (k : Stp W1 W2 M1 M2 F1 F2) : Stp W W2 M M2 F F2 :=
  ⟨k.os.trans h.os, k.tape.trans h.tape, k.output.trans h.output, Nat.le_trans h.size k.size, fun j hj hn => (k.block j (Nat.lt_of_lt_of_le hj h.size) (fun h1 => by
      rcases h.mm j h1 with h2 | h2
      · exact hn h2
      · omega)).trans (h.block j hj hn),
    fun j hj => by
      rcases k.mm j hj with h1 | h1
      · exact h.mm j h1
      · exact .inr (Nat.le_trans h.size h1),
    fun j hj => by
      rcases k.ff j hj with h1 | h1
      · exact h.ff j h1
      · exact .inr (Nat.le_trans h.size h1)⟩
theorem Stp.below {W W' : World} {M M' F F' : Nat → Prop} (h : Stp W W' M M' F F') {B : Nat} (hB : B ≤ W.heap.size) (hM : ∀ k, M k → B ≤ k) : Below B W W' :=
  ⟨h.os, h.tape, h.output, h.size, fun k hk => h.block k (by omega) (fun hm => by have := hM k hm; omega)⟩
/-- The journal behind an act. -/
def Jst (W : World) (M F : Nat → Prop) (r : Nat) (W' : World) (J' : JS) : Prop := ∃ M' F', Jn W' M' F' r J' ∧ Stp W W' M M' F F'
theorem Jst.same {W W' : World} {M F : Nat → Prop} {r : Nat} {J : JS} (h : Jn W M F r J) (hb : Below W.heap.size W W') : Jst W M F r W' J := ⟨M, F, h.below hb, Stp.of_below M F hb⟩
theorem Jst.trans {W W1 W2 : World} {M F M1 F1 : Nat → Prop} {r : Nat} {J : JS} (h : Stp W W1 M M1 F F1) (k : Jst W1 M1 F1 r W2 J) : Jst W M F r W2 J := by
  obtain ⟨M2, F2, h2, k2⟩ := k
  exact ⟨M2, F2, h2, h.trans k2⟩
end Go.Proofs.Ytkpfnonacebmkaa
