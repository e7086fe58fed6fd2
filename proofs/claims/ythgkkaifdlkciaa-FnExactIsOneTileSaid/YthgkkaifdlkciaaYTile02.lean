import Derived.Test.YthgkkaifdlkciaaYTile01
import Derived.Lib.ConvBytes
import Derived.Laws.BytesArg
/- A function's own memory in one bundle: blocks known whole, and slices that grow. -/
namespace Go.Proofs.Ythgkkaifdlkciaa
open Go.RowKit
set_option linter.unusedVariables false
set_option linter.unusedSimpArgs false

/-- since w0, memory from block B on is the call's own: the blocks L are known whole, the slices G own their rows; all lie apart -/
structure Mm (B : Nat) (w0 w : World) (L : List (Nat × List Value × TypeId)) (G : List (Value × TypeId × List Value)) : Prop where
  below : Below B w0 w
  size : B ≤ w.heap.size
  blk : ∀ x ∈ L, B ≤ x.1 ∧ Blk w x.1 x.2.1 x.2.2
  dist : L.Pairwise fun x y => x.1 ≠ y.1
  own : ∀ x ∈ G, w.ownsRow B x.2.1 1 x.1 x.2.2.length x.2.2
  sep : ∀ x ∈ G, ∀ y ∈ L, x.1.ownBlock ≠ some y.1
  gdist : G.Pairwise fun x y => ∀ b, x.1.ownBlock = some b → y.1.ownBlock ≠ some b

theorem Mm.start (w : World) : Mm w.heap.size w w [] [] :=
  ⟨Below.refl _ _, Nat.le_refl _, fun _ h => (by cases h), List.Pairwise.nil, fun _ h => (by cases h), fun _ h => (by cases h), List.Pairwise.nil⟩

section
variable {B : Nat} {w0 w : World} {L : List (Nat × List Value × TypeId)} {G : List (Value × TypeId × List Value)}

theorem Mm.ownlt (h : Mm B w0 w L G) {x : Value × TypeId × List Value} (hx : x ∈ G) {g : Nat} (hg : x.1.ownBlock = some g) : g < w.heap.size := (World.ownsRow.lt (h.own x hx) g hg).2

/-- a call that leaves all that was there as it was -/
theorem Mm.call (h : Mm B w0 w L G) {w' : World} (hb : Below w.heap.size w w') : Mm B w0 w' L G := by
  refine ⟨h.below.trans (hb.mono h.size), Nat.le_trans h.size hb.size, fun x hx => ⟨(h.blk x hx).1, (h.blk x hx).2.keep hb⟩, h.dist, fun x hx => ?_, h.sep, h.gdist⟩
  have hg : w.grownBy w' none := ⟨hb.os, hb.tape, hb.output, hb.size, fun k hk _ => hb.block k hk⟩
  exact World.ownsRow.kept (h.own x hx) hg (by by_cases e : x.1.ownBlock = none <;> simp [e])
theorem Mm.drewN (h : Mm B w0 w L G) (n : Nat) : Mm B w0 (w.drewN n) L G := h.call ⟨rfl, rfl, rfl, Nat.le_refl _, fun _ _ => rfl⟩
theorem Mm.drew (h : Mm B w0 w L G) : Mm B w0 w.drew L G := h.drewN 1
theorem Mm.allocO (h : Mm B w0 w L G) (o : Obj) : Mm B w0 (w.alloc o) L G := h.call ((Below.refl _ _).alloc (Nat.le_refl _) _)
theorem Mm.alloc (h : Mm B w0 w L G) (cs : Array Value) (T : TypeId) : Mm B w0 (w.alloc (.cells cs T)) ((w.heap.size, cs.toList, T) :: L) G := by
  have h' := h.allocO (.cells cs T)
  refine ⟨h'.below, h'.size, fun x hx => ?_, List.pairwise_cons.2 ⟨fun y hy => ?_, h.dist⟩, h'.own, fun x hx y hy => ?_, h.gdist⟩
  · rcases List.mem_cons.1 hx with rfl | hx
    · exact ⟨h.size, Blk.new w cs T⟩
    · exact h'.blk x hx
  · have := (h.blk y hy).2.lt; simp only; omega
  · rcases List.mem_cons.1 hy with rfl | hy
    · intro e; have := h.ownlt hx e; omega
    · exact h.sep x hx y hy
/-- a slice header over no memory, or a row that is known whole, becomes one that grows -/
theorem Mm.addNil (h : Mm B w0 w L G) (E : TypeId) (c : Nat := 0) : Mm B w0 w L ((.slice none 0 0, E, []) :: G) := by
  refine ⟨h.below, h.size, h.blk, h.dist, fun x hx => ?_, fun x hx y hy => ?_, List.pairwise_cons.2 ⟨fun y hy b e => by simp [Value.ownBlock] at e, h.gdist⟩⟩
  · rcases List.mem_cons.1 hx with rfl | hx
    · exact World.ownsRow_nil _ _ _ _
    · exact h.own x hx
  · rcases List.mem_cons.1 hx with rfl | hx
    · simp [Value.ownBlock]
    · exact h.sep x hx y hy
theorem Mm.addOwn (h : Mm B w0 w L G) {b : Nat} {cs : List Value} {T : TypeId} (hb : (b, cs, T) ∈ L) (n : Nat) (hn : n = cs.length) (hm : n ≤ 2000000) : Mm B w0 w (L.filter fun x => x.1 != b) ((.slice (some ⟨b, 0, none⟩) n n, T, cs) :: G) := by
  subst hn
  have hB := h.blk _ hb
  refine ⟨h.below, h.size, fun x hx => h.blk x (List.mem_filter.1 hx).1, h.dist.sublist List.filter_sublist, fun x hx => ?_, fun x hx y hy => ?_, List.pairwise_cons.2 ⟨fun y hy c e => ?_, h.gdist⟩⟩
  · rcases List.mem_cons.1 hx with rfl | hx
    · refine ⟨by simp, .inr ⟨b, cs.length, cs.toArray, rfl, hB.1, hB.2, ?_⟩⟩
      simp [maxLen]; omega
    · exact h.own x hx
  · obtain ⟨hy1, hy2⟩ := List.mem_filter.1 hy
    rcases List.mem_cons.1 hx with rfl | hx
    · simp only [Value.ownBlock]; intro e; simp at e hy2; exact hy2 e.symm
    · exact h.sep x hx y hy1
  · simp only [Value.ownBlock, Option.some.injEq] at e
    subst e
    exact h.sep y hy _ hb

/-- blocks that are no longer looked at -/
theorem Mm.sub (h : Mm B w0 w L G) {L' : List (Nat × List Value × TypeId)} (hs : L'.Sublist L) : Mm B w0 w L' G :=
  ⟨h.below, h.size, fun x hx => h.blk x (hs.subset hx), h.dist.sublist hs, h.own, fun x hx y hy => h.sep x hx y (hs.subset hy), h.gdist⟩
theorem mem_of_get {α : Type} {l : List α} {i : Nat} {x : α} (h : l[i]? = some x) : x ∈ l := List.mem_of_getElem? h
theorem Mm.at (h : Mm B w0 w L G) (i : Nat) {x : Nat × List Value × TypeId} (hi : L[i]? = some x) : Blk w x.1 x.2.1 x.2.2 := (h.blk x (mem_of_get hi)).2
theorem pairwise_get {α : Type} {R : α → α → Prop} (hs : ∀ x y, R x y → R y x) {l : List α} (h : l.Pairwise R) {i j : Nat} {x y : α} (hi : l[i]? = some x) (hj : l[j]? = some y) (hne : i ≠ j) : R x y := by
  rw [List.pairwise_iff_getElem] at h
  obtain ⟨hi', rfl⟩ := List.getElem?_eq_some_iff.1 hi
  obtain ⟨hj', rfl⟩ := List.getElem?_eq_some_iff.1 hj
  rcases Nat.lt_or_ge i j with c | c
  · exact h i j hi' hj' c
  · exact hs _ _ (h j i hj' hi' (by omega))

theorem mem_set_of {α : Type} {l : List α} {i : Nat} {x y : α} (h : x ∈ l.set i y) : x = y ∨ ∃ j, j ≠ i ∧ l[j]? = some x := by
  obtain ⟨j, hj⟩ := List.mem_iff_getElem?.1 h
  by_cases e : j = i
  · subst e
    rw [List.getElem?_set] at hj
    simp only [if_true] at hj
    split at hj
    · exact .inl (Option.some.inj hj).symm
    · cases hj
  · rw [List.getElem?_set_ne (Ne.symm e)] at hj
    exact .inr ⟨j, e, hj⟩

/-- cells of the block number i are written -/
theorem Mm.setCells (h : Mm B w0 w L G) (i : Nat) {b : Nat} {cs : List Value} {T : TypeId} (hi : L[i]? = some (b, cs, T)) (o : Nat) (vs : List Value) : Mm B w0 (w.setCells b o vs) (L.set i (b, splice cs o vs, T)) G := by
  have hb := h.blk _ (mem_of_get hi)
  have hsym : ∀ x y : Nat × List Value × TypeId, x.1 ≠ y.1 → y.1 ≠ x.1 := fun _ _ h => Ne.symm h
  have hsz : (w.setCells b o vs).heap.size = w.heap.size := size_setCells b vs w o
  refine ⟨below_setCells hb.1 vs h.below o, by rw [hsz]; exact h.size, fun x hx => ?_, ?_, fun x hx => ?_, fun x hx y hy => ?_, h.gdist⟩
  · rcases mem_set_of hx with rfl | ⟨j, hj, hx⟩
    · exact ⟨hb.1, hb.2.setCells vs o⟩
    · have := h.blk x (mem_of_get hx)
      exact ⟨this.1, this.2.setsOther (pairwise_get hsym h.dist hx hi hj) vs o⟩
  · have e : (L.set i (b, splice cs o vs, T)).map (·.1) = L.map (·.1) := by
      rw [List.map_set]
      apply List.ext_getElem?
      intro k
      by_cases hk : k = i
      · subst hk
        have hlt : k < L.length := (List.getElem?_eq_some_iff.1 hi).1
        rw [List.getElem?_set_self (by simpa using hlt), List.getElem?_map, hi]; rfl
      · rw [List.getElem?_set_ne (Ne.symm hk)]
    have hd : (L.map (·.1)).Pairwise (· ≠ ·) := List.pairwise_map.2 h.dist
    rw [← e] at hd
    exact List.pairwise_map.1 hd
  · have ho := h.own x hx
    refine ⟨ho.1, ?_⟩
    rcases ho.2 with hn | ⟨g, cap, cur, hv, h1, h2, rest⟩
    · exact .inl hn
    · have hg : Blk w g cur.toList x.2.1 := by show _ = _; simpa using h2
      have hne : g ≠ b := fun e => h.sep x hx _ (mem_of_get hi) (by rw [hv, e]; rfl)
      have := hg.setsOther hne vs o
      exact .inr ⟨g, cap, cur, hv, h1, by simpa [Blk] using this, rest⟩
  · rcases mem_set_of hy with rfl | ⟨j, hj, hy⟩
    · exact h.sep x hx (b, cs, T) (mem_of_get hi)
    · exact h.sep x hx y (mem_of_get hy)
theorem Mm.setCell (h : Mm B w0 w L G) (i : Nat) {b : Nat} {cs : List Value} {T : TypeId} (hi : L[i]? = some (b, cs, T)) (o : Nat) (v : Value) : Mm B w0 (w.setCell ⟨b, o, none⟩ v) (L.set i (b, cs.set o v, T)) G := h.setCells i hi o [v]
theorem Mm.setAll (h : Mm B w0 w L G) (i : Nat) {b : Nat} {cs : List Value} {T : TypeId} (hi : L[i]? = some (b, cs, T)) {vs : List Value} (hl : vs.length = cs.length) : Mm B w0 (w.setCells b 0 vs) (L.set i (b, vs, T)) G := by
  have := h.setCells i hi 0 vs
  rwa [splice_all hl] at this

/-- an append to the slice number i, behind a new block with what is put in -/
theorem Mm.grow (h : Mm B w0 w L G) (i : Nat) {v : Value} {E : TypeId} {xs : List Value} (hi : G[i]? = some (v, E, xs)) (o : Obj) {news : List Value} {g cap m : Nat} {w' : World} (hm : m = news.length)
    (hown : w'.ownsRow B E 1 (.slice (some ⟨g, 0, none⟩) (xs.length + m) cap) (xs.length + m) (xs ++ news)) (hgrow : (w.alloc o).grownBy w' v.ownBlock) (hlies : v.ownBlock = some g ∨ g = (w.alloc o).heap.size) :
    Mm B w0 w' L (G.set i (.slice (some ⟨g, 0, none⟩) (xs.length + m) cap, E, xs ++ news)) := by
  have hv := mem_of_get hi
  have hs : (w.alloc o).heap.size = w.heap.size + 1 := by simp
  have hsz := hgrow.size
  have ha := h.allocO o
  have hblock : ∀ k, k < w.heap.size → v.ownBlock ≠ some k → w'.heap[k]? = w.heap[k]? := fun k hk hne =>
    (hgrow.block k (by omega) (Ne.symm hne)).trans (Below.heap_alloc w o k hk)
  have hnb : ∀ k, k < w.heap.size → v.ownBlock ≠ some k → (Value.slice (some ⟨g, 0, none⟩) (xs.length + m) cap).ownBlock ≠ some k := fun k hk hne e => by
    simp only [Value.ownBlock, Option.some.injEq] at e
    rcases hlies with h' | h'
    · rw [h', e] at hne; exact hne rfl
    · omega
  have hsym : ∀ x y : Value × TypeId × List Value, (∀ b, x.1.ownBlock = some b → y.1.ownBlock ≠ some b) → ∀ b, y.1.ownBlock = some b → x.1.ownBlock ≠ some b := fun x y h b e e' => h b e' e
  refine ⟨?_, by have := h.size; omega, fun x hx => ⟨(h.blk x hx).1, (hblock _ (h.blk x hx).2.lt (h.sep _ hv x hx)).trans (h.blk x hx).2⟩, h.dist, fun x hx => ?_, fun x hx y hy => ?_, ?_⟩
  · refine ⟨hgrow.os.trans ha.below.os, hgrow.tape.trans ha.below.tape, hgrow.output.trans ha.below.output, by have := h.below.size; omega, fun k hk => ?_⟩
    have hkw : k < w.heap.size := by have := h.size; omega
    exact (hblock k hkw (fun e => by have := (World.ownsRow.lt (h.own _ hv) k e).1; omega)).trans (h.below.block k hk)
  · rcases mem_set_of hx with rfl | ⟨j, hj, hx⟩
    · have : (xs ++ news).length = xs.length + m := by rw [List.length_append, hm]
      simp only [this]
      exact hown
    · have ho := h.own x (mem_of_get hx)
      refine ⟨ho.1, ?_⟩
      rcases ho.2 with hn | ⟨g', cap', cur, hv', h1, h2, rest⟩
      · exact .inl hn
      · have hlt := h.ownlt (mem_of_get hx) (by rw [hv']; rfl : x.1.ownBlock = some g')
        exact .inr ⟨g', cap', cur, hv', h1, (hblock g' hlt (pairwise_get hsym h.gdist hx hi hj g' (by rw [hv']; rfl))).trans h2, rest⟩
  · rcases mem_set_of hx with rfl | ⟨j, hj, hx⟩
    · exact hnb _ (h.blk y hy).2.lt (h.sep _ hv y hy)
    · exact h.sep x (mem_of_get hx) y hy
  · rw [List.pairwise_iff_getElem]
    intro a b ha' hb' hab c e
    simp only [List.getElem_set] at e ⊢
    simp only [List.length_set] at ha' hb'
    by_cases e1 : i = a
    · subst e1
      simp only [if_true] at e
      rw [if_neg (by omega)]
      intro e2
      have hlt := h.ownlt (List.getElem_mem hb') e2
      exact hnb c hlt (pairwise_get hsym h.gdist (List.getElem?_eq_getElem hb') hi (by omega) c e2) e
    · rw [if_neg e1] at e
      by_cases e2 : i = b
      · subst e2
        simp only [if_true]
        have hlt := h.ownlt (List.getElem_mem ha') e
        exact hnb c hlt (pairwise_get hsym h.gdist (List.getElem?_eq_getElem ha') hi (by omega) c e)
      · rw [if_neg e2]
        exact (List.pairwise_iff_getElem.1 h.gdist) a b ha' hb' hab c e

theorem Mm.mach (h : Mm B w0 w L G) (i : Nat) {b : Nat} {m : Mch} {T : TypeId} (hi : L[i]? = some (b, m.cells, T)) : MAt w b 0 m := (h.at i hi).all

/-- 'out = append(out, u)', u of one cell, to the slice number i -/
theorem Mm.appendAt {P : Program} {ops : Array Oper} {rest : List Oper} {o : Oper} {a : Act} {Q : Exit → Act → World → Prop} (hgd : o.guard = none) (s x : Operand) (t : TypeId)
    (ho : o.op = .call { callee := .builtin .append, args := #[s, x], argTypes := #[t, t] })
    (h : Mm B w0 w L G) (i : Nat) {v : Value} {E : TypeId} {xs : List Value} (hi : G[i]? = some (v, E, xs)) {i0 : TypeInfo} {z : Value} {bytes : Nat} (ht : P.underlying t = some (.slice E)) (hI : P.info? E = some i0) (hz : i0.zero = some z)
    (hsize : i0.size = 1) (hby : i0.bytes = bytes) (hzs : z.cells.size = 1) {u : Value} (hs : a.eval s = v) (b : Nat) (hb : w.heap.size = b) (hx : a.eval x = .slice (some ⟨b, 0, none⟩) 1 1) (hu : u.oneCell' = true)
    (hlen : xs.length ≤ 1000000) (hbytes : bytes ≤ 1000)
    (hk : ∀ g cap w', Mm B w0 w' L (G.set i (.slice (some ⟨g, 0, none⟩) (xs.length + 1) cap, E, xs ++ [u])) → wpList P ops Q rest (a.put o.dst (.slice (some ⟨g, 0, none⟩) (xs.length + 1) cap)) w') :
    wpList P ops Q (o :: rest) a (w.alloc (.cells #[u] E)) := by
  subst hb
  refine wpList_append_lies _ hgd s x t ho B E i0 z 1 bytes ht hI hz hsize hby hzs (by decide) v xs.length xs hs (World.ownsRow.alloc (h.own _ (mem_of_get hi)) _) ⟨w.heap.size, 0, none⟩ 1 1 [u] hx rfl ?_ ?_ (by omega) ?_ ?_ ?_ _ rfl ?_
  · intro j y hj
    have hb := Blk.new w #[u] E
    have hadd : (⟨w.heap.size, 0, none⟩ : Addr).add j = ⟨w.heap.size, j, none⟩ := by unfold Addr.add; split <;> simp_all
    rw [hadd]
    exact hb.cell' hj
  · intro y hy
    rw [List.mem_singleton] at hy
    rw [hy]; exact hu
  · simp [maxLen]; omega
  · calc (xs.length + 1) * bytes ≤ 1000001 * 1000 := Nat.mul_le_mul (by omega) hbytes
      _ ≤ _ := by omega
  · have := h.size; simp; omega
  · intro g cap w' hown hgrow hlies hlt
    exact hk g cap w' (h.grow i hi _ rfl hown hgrow hlies)

theorem Mm.append {P : Program} {ops : Array Oper} {rest : List Oper} {o : Oper} {a : Act} {Q : Exit → Act → World → Prop} (hgd : o.guard = none) (s x : Operand) (t : TypeId)
    (ho : o.op = .call { callee := .builtin .append, args := #[s, x], argTypes := #[t, t] })
    (h : Mm B w0 w L G) (i : Nat) {v : Value} {E : TypeId} {xs : List Value} (hi : G[i]? = some (v, E, xs)) {i0 : TypeInfo} {z : Value} {bytes : Nat} (ht : P.underlying t = some (.slice E)) (hI : P.info? E = some i0) (hz : i0.zero = some z)
    (hsize : i0.size = 1) (hby : i0.bytes = bytes) (hzs : z.cells.size = 1) {u : Value} (hs : a.eval s = v) (hx : a.eval x = .slice (some ⟨w.heap.size, 0, none⟩) 1 1) (hu : u.oneCell' = true)
    (hlen : xs.length ≤ 1000000) (hbytes : bytes ≤ 1000)
    (hk : ∀ g cap w', Mm B w0 w' L (G.set i (.slice (some ⟨g, 0, none⟩) (xs.length + 1) cap, E, xs ++ [u])) → wpList P ops Q rest (a.put o.dst (.slice (some ⟨g, 0, none⟩) (xs.length + 1) cap)) w') :
    wpList P ops Q (o :: rest) a (w.alloc (.cells #[u] E)) := Mm.appendAt hgd s x t ho h i hi ht hI hz hsize hby hzs hs _ rfl hx hu hlen hbytes hk

end
end Go.Proofs.Ythgkkaifdlkciaa

/- IsMachine and its reference: both ask whether a struct is a machine. -/
namespace Go.Proofs.Ythgkkaifdlkciaa
open Go.RowKit
set_option linter.unusedVariables false
set_option linter.unusedSimpArgs false

theorem and_bit : ∀ t, t < 8 → ∀ o, o < 3 → (bits BinOp.and IntKind.i64 ((t : Nat) / 2 ^ o) 1 == 1) = (t : Nat).testBit o := by decide
theorem or_bit : ∀ t, t < 8 → ∀ o, o < 3 → bits BinOp.or IntKind.i64 (t : Nat) (wrap64 (2 ^ o)) = ((t ||| 2 ^ o : Nat) : Int) ∧ (t ||| 2 ^ o : Nat) < 8 := by decide +kernel

/-- the letters that a state has put out before x, as a mask -/
def SeenM (m : Mch) (q k t : Nat) : Prop := t < 8 ∧ ∀ v, v < 3 → t.testBit v = (List.range k).any fun y => decide (m.o q y = (v : Int))

theorem SeenM.zero (m : Mch) (q : Nat) : SeenM m q 0 0 := ⟨by omega, by simp⟩

theorem SeenM.step {m : Mch} {q k t o : Nat} (h : SeenM m q k t) (ho : m.o q k = (o : Int)) (hlt : o < 3) : SeenM m q (k + 1) (t ||| 2 ^ o) := by
  refine ⟨(or_bit t h.1 o hlt).2, fun v hv => ?_⟩
  rw [Nat.testBit_or, h.2 v hv, List.range_succ, List.any_append, Nat.testBit_two_pow]
  simp only [List.any_cons, List.any_nil, Bool.or_false, ho]
  congr 1
  simp
  omega

theorem SeenM.all {m : Mch} {q k t o : Nat} (h : SeenM m q k t) (ho : m.o q k = (o : Int)) (hlt : o < 3) :
    ((List.range k).all fun y => m.o q y != m.o q k) = !t.testBit o := by
  rw [h.2 o hlt, List.not_any_eq_all_not, ho]
  congr 1

def rowUpto (m : Mch) (q k : Nat) : Bool := (List.range k).all fun x => entryP m q x
theorem rowUpto_succ (m : Mch) (q k : Nat) : rowUpto m q (k + 1) = (rowUpto m q k && entryP m q k) := by
  simp [rowUpto, List.range_succ, List.all_append]
theorem row_false {m : Mch} {q k : Nat} (hk : k < 3) (h : entryP m q k = false) : rowP m q = false := by
  rw [rowP, List.all_eq_false]
  exact ⟨k, by simpa using hk, by simp [h]⟩

theorem entry_idle {m : Mch} {q k : Nat} (h : ¬ ((q : Int) < m.S ∧ (k : Int) < m.L)) : entryP m q k = (decide (m.n q k = 0) && decide (m.o q k = 0)) := by
  have : (decide (m.S ≤ (q : Int)) || decide (m.L ≤ (k : Int))) = true := by
    rw [Bool.or_eq_true, decide_eq_true_eq, decide_eq_true_eq]; omega
  simp only [entryP, this, if_true]
  rw [Bool.eq_iff_iff]
  simp
theorem entry_act {m : Mch} {q k : Nat} (h : (q : Int) < m.S ∧ (k : Int) < m.L) :
    entryP m q k = (decide (m.n q k < m.S) && decide (m.o q k < m.L) && (List.range k).all fun y => m.o q y != m.o q k) := by
  have : (decide (m.S ≤ (q : Int)) || decide (m.L ≤ (k : Int))) = false := by
    rw [Bool.or_eq_false_iff, decide_eq_false_iff_not, decide_eq_false_iff_not]; omega
  simp only [entryP, this]
  simp

def RowPost (m : Mch) (q : Nat) (w : World) (e : Ending) (w' : World) : Prop := e = .returned (.bool (rowP m q)) ∧ ∃ n, w' = w.drewN n

set_option maxHeartbeats 2000000 in
theorem isRow_any (b o : Nat) (m : Mch) (hwf : m.Wf) (q : Nat) (hq : q < 16) (w : World) (hm : MAt w b o m) (hL : m.L ≤ 3) :
    Calls Try.prog 49 #[.pointer (some ⟨b, o, none⟩), .int .i64 q] w (RowPost m q w) := by
  have hl := hm.l
  have hs := hm.s
  go_enter Try.func49, Try.ntmps49
  go_wp2
  go_loopw [4, 5, 9] (fun r s x wr => ∃ k : Nat, ∃ t n : Nat, k ≤ 3 ∧ x = .int .i64 k ∧ s = .int .i64 t ∧ rowUpto m q k = true ∧ (((q : Int) < m.S → (k : Int) ≤ m.L → SeenM m q k t)) ∧ r = .bool false ∧ wr = w.drewN n) (fun _ _ x _ => 3 - (intOf x).toNat)
  case atStart => exact ⟨0, 0, 0, by omega, rfl, rfl, rfl, fun _ _ => SeenM.zero _ _, rfl, rfl⟩
  case round =>
    obtain ⟨k, t, n, hk, rfl, rfl, hu, hsn, rfl, rfl⟩ := hrel
    have HU := Lib.hid hu
    have HS := Lib.hid hsn
    clear hu hsn
    by_cases hlt : k < 3
    · have e2 := hm.nn hwf hq hlt
      have e3 := hm.oo hwf hq hlt
      have b2 : 0 ≤ m.n q k ∧ m.n q k ≤ 255 := hwf.nb (q * 3 + k)
      have b3 : 0 ≤ m.o q k ∧ m.o q k ≤ 255 := hwf.ob (q * 3 + k)
      have i1 : (q : Int) < 16 := by omega
      have i2 : (0 : Int) ≤ (q : Int) := by omega
      have i3 : (k : Int) < 3 := by omega
      have i4 : (0 : Int) ≤ (k : Int) := by omega
      clear hm
      obtain ⟨N, hN⟩ : ∃ N, N = m.n q k := ⟨_, rfl⟩
      obtain ⟨O, hO⟩ : ∃ O, O = m.o q k := ⟨_, rfl⟩
      rw [← hN] at e2 b2
      rw [← hO] at e3 b3
      have HN := Lib.hid hN
      have HO := Lib.hid hO
      clear hN hO
      by_cases hact : (q : Int) < m.S ∧ (k : Int) < m.L
      · have HA := entry_act hact
        rw [← HN.out, ← HO.out] at HA
        obtain ⟨a1, a2⟩ := hact
        by_cases c1 : N < m.S
        · by_cases c2 : O < m.L
          · obtain ⟨o', ho'⟩ : ∃ o' : Nat, O = o' := ⟨O.toNat, by omega⟩
            subst ho'
            have ho3 : o' < 3 := by omega
            have hS := HS.out a1 (by omega)
            have hall := hS.all HO.out.symm ho3
            have hab := and_bit t hS.1 o' ho3
            have hob := (or_bit t hS.1 o' ho3).1
            have hstep := Lib.hid (hS.step HO.out.symm ho3)
            have HOB := Lib.hid hob
            rw [HO.out, hall, ← hab] at HA
            clear hall hab hob hS
            have HA' := Lib.hid HA
            clear HA
            by_cases c3 : (bits BinOp.and IntKind.i64 ((t : Int) / 2 ^ o') 1 == 1) = true
            · have hf : rowP m q = false := row_false hlt (by rw [HA'.out, c3]; simp)
              have HF := Lib.hid hf
              clear hf
              go_wp2
              go_quiet (fail)
              go_wp2
              go_ret
              exact ⟨ret_bool HF.out.symm, _, rfl⟩
            · have c3' : (bits BinOp.and IntKind.i64 ((t : Int) / 2 ^ o') 1 == 1) = false := by simpa using c3
              clear c3
              have hf : rowUpto m q (k + 1) = true := by rw [rowUpto_succ, HU.out, HA'.out, c3']; simp [c1, ← HO.out, c2]
              have HF := Lib.hid hf
              clear hf
              go_wp2
              go_quiet (fail)
              go_wp2
              go_roundw
              case rel => exact ⟨k + 1, t ||| 2 ^ o', _, by omega, by go_num, by rw [HOB.out], HF.out, fun _ _ => hstep.out, rfl, rfl⟩
              case measure => simp [intOf]; omega
          · have hf : rowP m q = false := row_false hlt (by rw [HA]; simp [c2])
            have HF := Lib.hid hf
            clear hf HA
            go_wp2
            go_quiet (fail)
            go_wp2
            go_ret
            exact ⟨ret_bool HF.out.symm, _, rfl⟩
        · have hf : rowP m q = false := row_false hlt (by rw [HA]; simp [c1])
          have HF := Lib.hid hf
          clear hf HA
          go_wp2
          go_quiet (fail)
          go_wp2
          go_ret
          exact ⟨ret_bool HF.out.symm, _, rfl⟩
      · have HA := entry_idle hact
        rw [← HN.out, ← HO.out] at HA
        have hno : (q : Int) < m.S → (k : Int) + 1 ≤ m.L → False := fun a c => hact ⟨a, by omega⟩
        have HNO := Lib.hid hno
        clear hno
        have HA' := Lib.hid HA
        clear HA
        by_cases c1 : N = 0
        · by_cases c2 : (O != 0) = true
          · have hf : rowP m q = false := row_false hlt (by rw [HA'.out]; simp at c2; simp [c2])
            have HF := Lib.hid hf
            clear hf
            by_cases c4 : m.S ≤ (q : Int)
            all_goals (go_wp2; go_quiet (fail); go_wp2; go_ret; exact ⟨ret_bool HF.out.symm, _, rfl⟩)
          · have c2' : (O != 0) = false := by simpa using c2
            clear c2
            have hf : rowUpto m q (k + 1) = true := by rw [rowUpto_succ, HU.out, HA'.out]; simp at c2'; simp [c1, c2']
            have HF := Lib.hid hf
            clear hf
            by_cases c4 : m.S ≤ (q : Int)
            · go_wp2
              go_quiet (fail)
              go_wp2
              go_roundw
              case rel => exact ⟨k + 1, t, _, by omega, by go_num, rfl, HF.out, fun a c => (HNO.out a (by omega)).elim, rfl, rfl⟩
              case measure => simp [intOf]; omega
            · go_wp2
              go_quiet (fail)
              go_wp2
              go_roundw
              case rel => exact ⟨k + 1, t, _, by omega, by go_num, rfl, HF.out, fun a c => (HNO.out a (by omega)).elim, rfl, rfl⟩
              case measure => simp [intOf]; omega
        · have hf : rowP m q = false := row_false hlt (by rw [HA'.out]; simp [c1])
          have HF := Lib.hid hf
          clear hf
          by_cases c4 : m.S ≤ (q : Int)
          all_goals (go_wp2; go_quiet (fail); go_wp2; go_ret; exact ⟨ret_bool HF.out.symm, _, rfl⟩)
    · have hk3 : k = 3 := by omega
      subst hk3
      have HF := Lib.hid (show rowP m q = true from HU.out)
      go_wp2
      go_ret
      exact ⟨ret_bool HF.out.symm, _, rfl⟩
end Go.Proofs.Ythgkkaifdlkciaa

/- IsMachine and its reference. -/
namespace Go.Proofs.Ythgkkaifdlkciaa
open Go.RowKit
set_option linter.unusedVariables false
set_option linter.unusedSimpArgs false

theorem MAt.alloc {w : World} {b o : Nat} {m : Mch} (h : MAt w b o m) (hb : b < w.heap.size) (ob : Obj) : MAt (w.alloc ob) b o m :=
  fun j v hj => (World.cell?_alloc_past _ _ _ hb).trans (h j v hj)
theorem MAt.setCell {w : World} {b o : Nat} {m : Mch} (h : MAt w b o m) {a : Addr} (hb : b ≠ a.block) (u : Value) : MAt (w.setCell a u) b o m :=
  fun j v hj => (World.cell?_setCell_other _ _ _ _ (by intro e; apply hb; rw [e])).trans (h j v hj)

def rowsUpto (m : Mch) (k : Nat) : Bool := (List.range k).all fun q => rowP m q
theorem rowsUpto_succ (m : Mch) (k : Nat) : rowsUpto m (k + 1) = (rowsUpto m k && rowP m k) := by
  simp [rowsUpto, List.range_succ, List.all_append]
theorem mach_false {m : Mch} {k : Nat} (hk : k < 16) (h : rowP m k = false) : machP m = false := by
  have : (List.range 16).all (fun q => rowP m q) = false := by
    rw [List.all_eq_false]
    exact ⟨k, by simpa using hk, by simp [h]⟩
  simp [machP, this]

set_option maxHeartbeats 1000000 in
theorem IsMachine_any (m : Mch) (hwf : m.Wf) (w : World) :
    Calls Try.prog 28 #[.agg m.cells.toArray] w (Ret (.bool (machP m)) w) := by
  have hm := MAt.boxed w m 28
  have hl : (w.alloc (.cells m.cells.toArray 28)).cell? ⟨w.heap.size, 0, none⟩ = some (.int .i64 m.L) := hm.l
  have hs : (w.alloc (.cells m.cells.toArray 28)).cell? ⟨w.heap.size, 1, none⟩ = some (.int .i64 m.S) := hm.s
  have hb0 : Below w.heap.size w (w.alloc (.cells m.cells.toArray 28)) := (Below.refl _ _).alloc (Nat.le_refl _) _
  have HF : Hid (inR m.L 2 3 = false → machP m = false) := fun h => by simp [machP, h]
  have HF2 : Hid (inR m.S 1 16 = false → machP m = false) := fun h => by simp [machP, h]
  by_cases c1 : inR m.L 2 3 = true
  · by_cases c2 : inR m.S 1 16 = true
    · have hL : m.L ≤ 3 := by simp [inR] at c1; omega
      have HT : Hid (rowsUpto m 16 = true → machP m = true) := fun h => by simp [machP, c1, c2]; simpa [rowsUpto] using h
      go_enter Try.func28, Try.ntmps28
      go_wp2_with (first | (go_at_call 47; refine (areLetters_any _ _).mono ?_; rintro e w' ⟨rfl, rfl⟩) | (go_at_call 48; refine (within_any _ _ _ _).mono ?_; rintro e w' ⟨rfl, rfl⟩))
      go_loopw [2, 14] (fun r x wr => ∃ k n : Nat, k ≤ 16 ∧ x = .int .i64 k ∧ rowsUpto m k = true ∧ r = .bool false ∧ wr = (w.alloc (.cells m.cells.toArray 28)).drewN n) (fun _ x _ => 16 - (intOf x).toNat)
      case atStart => exact ⟨0, 0, by omega, rfl, rfl, rfl, rfl⟩
      case round =>
        obtain ⟨k, n, hk, rfl, hu, rfl, rfl⟩ := hrel
        have HU := Lib.hid hu
        clear hu
        by_cases hlt : k < 16
        · have i1 : (k : Int) < 16 := by omega
          go_wp2_with (go_at_call 49; refine (isRow_any _ 0 m hwf k hlt _ (hm.drewN n) hL).mono ?_; rintro e w' ⟨rfl, n', rfl⟩)
          · have hr : (!rowP m k) = true := by assumption
            go_ret
            exact ⟨ret_bool (mach_false hlt (by simpa using hr)).symm, below_dN hb0 _⟩
          · have hr : (!rowP m k) = false := by assumption
            go_roundw
            case rel => exact ⟨k + 1, _, by omega, by go_num, by rw [rowsUpto_succ, HU.out]; simpa using hr, rfl, rfl⟩
            case measure => simp [intOf]; omega
        · have hk16 : k = 16 := by omega
          subst hk16
          go_wp2
          go_ret
          exact ⟨ret_bool (HT.out HU.out).symm, below_dN hb0 _⟩
    · go_enter Try.func28, Try.ntmps28
      go_wp2_with (first | (go_at_call 47; refine (areLetters_any _ _).mono ?_; rintro e w' ⟨rfl, rfl⟩) | (go_at_call 48; refine (within_any _ _ _ _).mono ?_; rintro e w' ⟨rfl, rfl⟩))
      go_ret
      exact ⟨ret_bool (HF2.out (by simpa using c2)).symm, hb0⟩
  · go_enter Try.func28, Try.ntmps28
    go_wp2_with (first | (go_at_call 47; refine (areLetters_any _ _).mono ?_; rintro e w' ⟨rfl, rfl⟩) | (go_at_call 48; refine (within_any _ _ _ _).mono ?_; rintro e w' ⟨rfl, rfl⟩))
    go_ret
    exact ⟨ret_bool (HF.out (by simpa using c1)).symm, hb0⟩
end Go.Proofs.Ythgkkaifdlkciaa

/- Codes of machines, words and states; looking for an element by a function. -/
namespace Go.Proofs.Ythgkkaifdlkciaa
open Go.RowKit
set_option linter.unusedVariables false
set_option linter.unusedSimpArgs false

theorem out_nat (b o : Nat) (m : Mch) (hwf : m.Wf) (q x : Nat) (hq : q < 16) (hx : x < 3) (w : World) (hm : MAt w b o m) :
    Calls Try.prog 80 #[.pointer (some ⟨b, o, none⟩), .int .i64 q, .int .i64 x] w fun e w' => e = .returned (.int .i64 (m.o q x)) ∧ w = w' := by
  have e3 := hm.oo hwf hq hx
  have b3 : 0 ≤ m.o q x ∧ m.o q x ≤ 255 := hwf.ob (q * 3 + x)
  have i1 : (q : Int) < 16 := by omega
  have i2 : (x : Int) < 3 := by omega
  go_enter Try.func80, Try.ntmps80
  go_wp2
  go_ret
  exact ⟨rfl, rfl⟩

theorem next_nat (b o : Nat) (m : Mch) (hwf : m.Wf) (q x : Nat) (hq : q < 16) (hx : x < 3) (w : World) (hm : MAt w b o m) :
    Calls Try.prog 79 #[.pointer (some ⟨b, o, none⟩), .int .i64 q, .int .i64 x] w fun e w' => e = .returned (.int .i64 (m.n q x)) ∧ w = w' := by
  have e3 := hm.nn hwf hq hx
  have b3 : 0 ≤ m.n q x ∧ m.n q x ≤ 255 := hwf.nb (q * 3 + x)
  have i1 : (q : Int) < 16 := by omega
  have i2 : (x : Int) < 3 := by omega
  go_enter Try.func79, Try.ntmps79
  go_wp2
  go_ret
  exact ⟨rfl, rfl⟩

theorem out_any (b o : Nat) (m : Mch) (hwf : m.Wf) (q x : Int) (hq : 0 ≤ q ∧ q < 16) (hx : 0 ≤ x ∧ x < 3) (w : World) (hm : MAt w b o m) :
    Calls Try.prog 80 #[.pointer (some ⟨b, o, none⟩), .int .i64 q, .int .i64 x] w fun e w' => e = .returned (.int .i64 (m.o q.toNat x.toNat)) ∧ w = w' := by
  have := out_nat b o m hwf q.toNat x.toNat (by omega) (by omega) w hm
  rwa [Int.toNat_of_nonneg hq.1, Int.toNat_of_nonneg hx.1] at this
theorem next_any (b o : Nat) (m : Mch) (hwf : m.Wf) (q x : Int) (hq : 0 ≤ q ∧ q < 16) (hx : 0 ≤ x ∧ x < 3) (w : World) (hm : MAt w b o m) :
    Calls Try.prog 79 #[.pointer (some ⟨b, o, none⟩), .int .i64 q, .int .i64 x] w fun e w' => e = .returned (.int .i64 (m.n q.toNat x.toNat)) ∧ w = w' := by
  have := next_nat b o m hwf q.toNat x.toNat (by omega) (by omega) w hm
  rwa [Int.toNat_of_nonneg hq.1, Int.toNat_of_nonneg hx.1] at this

/-- function k is entered by a call -/
def Enters (k : Nat) : Prop := ∀ args w, Sem.run Try.prog (callFunc k args) w = .ok (.enter k args) w
/-- a slice of ints that reads as xs -/
def IntsAt (w : World) (a : Option Addr) (xs : List Int) : Prop := ∀ i, i < xs.length → ∃ b off, a = some ⟨b, off, none⟩ ∧ w.cell? ⟨b, off + i, none⟩ = some (.int .i64 (xs[i]?.getD 0))
theorem IntsAt.keep {w w' : World} {a : Option Addr} {xs : List Int} (h : IntsAt w a xs) (hb : Below w.heap.size w w') : IntsAt w' a xs := fun i hi => by
  obtain ⟨b, off, ha, hc⟩ := h i hi
  exact ⟨b, off, ha, (hb.cell (p := ⟨b, off + i, none⟩) (World.block_lt_of_cell? w _ hc)).trans hc⟩

/-- the first place at which p holds, or -1 -/
def idxP {α : Type} (p : α → Bool) (xs : List α) : Int := match xs.findIdx? p with | some i => (i : Int) | none => -1
theorem idxP_hit {α : Type} {p : α → Bool} {xs : List α} {k : Nat} (hk : k < xs.length) (h1 : p xs[k] = true) (h2 : ∀ j (hj : j < k), p (xs[j]'(by omega)) = false) : idxP p xs = k := by
  have : xs.findIdx? p = some k := by
    rw [List.findIdx?_eq_some_iff_getElem]
    exact ⟨hk, h1, fun j hj => by simp [h2 j hj]⟩
  rw [idxP, this]
theorem idxP_none {α : Type} {p : α → Bool} {xs : List α} (h : ∀ j (hj : j < xs.length), p xs[j] = false) : idxP p xs = -1 := by
  have : xs.findIdx? p = none := by
    rw [List.findIdx?_eq_none_iff]
    intro x hx
    obtain ⟨j, hj, rfl⟩ := List.mem_iff_getElem.1 hx
    exact h j hj
  rw [idxP, this]
theorem idxP_ge {α : Type} (p : α → Bool) (xs : List α) : decide (0 ≤ idxP p xs) = xs.any p := by
  unfold idxP
  cases h : xs.findIdx? p with
  | none =>
    rw [List.findIdx?_eq_none_iff] at h
    have : xs.any p = false := by rw [List.any_eq_false]; intro x hx; simp [h x hx]
    rw [this]; rfl
  | some i =>
    rw [List.findIdx?_eq_some_iff_getElem] at h
    obtain ⟨hi, h1, _⟩ := h
    have : xs.any p = true := List.any_eq_true.2 ⟨_, List.getElem_mem hi, h1⟩
    rw [this]
    simp only [decide_eq_true_eq]
    omega

set_option maxRecDepth 100000 in
set_option maxHeartbeats 1000000 in
theorem indexFuncI_any (k : Nat) (hent : Enters k) (cap : Array Value) (a : Option Addr) (xs : List Int) (c : Nat) (hn : xs.length ≤ 10000) (p : Int → Bool) (w : World) (R : World → Prop) (hR : R w)
    (hc : ∀ w', R w' → IntsAt w' a xs) (hf : ∀ w', R w' → ∀ i (hi : i < xs.length), Calls Try.prog k (#[.int .i64 (xs[i])] ++ cap) w' fun e w'' => e = .returned (.bool (p xs[i])) ∧ R w'') :
    Calls Try.prog 78 #[.slice a xs.length c, .func (.func k) #[] cap] w fun e w' => e = .returned (.int .i64 (idxP p xs)) ∧ R w' := by
  have hent' : ∀ args w, Sem.run Try.prog (callFunc k args) w = .ok (.enter k args) w := hent
  have HC := Lib.hid hc
  have HF := Lib.hid hf
  clear hc hf hent
  go_enter Try.func78, Try.ntmps78
  go_wp2
  go_loopw [4, 8] (fun r i wr => ∃ j : Nat, j ≤ xs.length ∧ i = .int .i64 j ∧ r = .int .i64 0 ∧ Hid (R wr) ∧ Hid (∀ i (hi : i < xs.length), i < j → p xs[i] = false)) (fun _ i _ => xs.length - (intOf i).toNat)
  case atStart => exact ⟨0, Nat.zero_le _, rfl, rfl, hR, fun i hi h => by omega⟩
  case round =>
    obtain ⟨j, hj, rfl, rfl, hRr, hI⟩ := hrel
    by_cases hlt : j < xs.length
    · obtain ⟨b, off, rfl, hcell⟩ := HC.out _ hRr.out j hlt
      rw [List.getElem?_eq_getElem hlt, Option.getD_some] at hcell
      have i1 : (j : Int) < xs.length := by omega
      have i2 : (0 : Int) ≤ (j : Int) := by omega
      obtain ⟨x, hx⟩ : ∃ x, x = xs[j] := ⟨_, rfl⟩
      have hcall := Lib.hid (HF.out _ hRr.out j hlt)
      rw [← hx] at hcell hcall
      have HXX := Lib.hid hx
      clear hx
      go_wp2_with fail
      refine hcall.out.mono ?_
      rintro e w1 ⟨rfl, hR1⟩
      cases hp : p x
      · have HJ := Lib.hid (show ∀ i (hi : i < xs.length), i < j + 1 → p xs[i] = false from fun i hi h => by
          by_cases e : i = j
          · subst e; rw [← HXX.out]; exact hp
          · exact hI.out i hi (by omega))
        have HR1 := Lib.hid hR1
        clear hp hR1
        go_wp2
        go_roundw
        case rel => exact ⟨j + 1, by omega, by go_num, rfl, HR1, HJ.out⟩
        case measure => simp [intOf]; omega
      · have HJ := Lib.hid (idxP_hit hlt (by rw [← HXX.out]; exact hp) (fun i hi => hI.out i (by omega) hi))
        have HR1 := Lib.hid hR1
        clear hp hR1
        go_wp2
        go_ret
        exact ⟨ret_int HJ.out.symm, HR1.out⟩
    · have HJ := Lib.hid (idxP_none (p := p) (xs := xs) (fun i hi => hI.out i hi (by omega)))
      have hj' : ¬ (j : Int) < xs.length := by omega
      go_wp2
      go_ret
      exact ⟨ret_int HJ.out.symm, hRr.out⟩

set_option maxHeartbeats 1000000 in
theorem containsFuncI_any (k : Nat) (hent : Enters k) (cap : Array Value) (a : Option Addr) (xs : List Int) (c : Nat) (hn : xs.length ≤ 10000) (p : Int → Bool) (w : World) (R : World → Prop) (hR : R w)
    (hc : ∀ w', R w' → IntsAt w' a xs) (hf : ∀ w', R w' → ∀ i (hi : i < xs.length), Calls Try.prog k (#[.int .i64 (xs[i])] ++ cap) w' fun e w'' => e = .returned (.bool (p xs[i])) ∧ R w'') :
    Calls Try.prog 54 #[.slice a xs.length c, .func (.func k) #[] cap] w fun e w' => e = .returned (.bool (xs.any p)) ∧ R w' := by
  have HE := Lib.hid hent
  have HC := Lib.hid hc
  have HF := Lib.hid hf
  have HN := Lib.hid hn
  have HR := Lib.hid hR
  clear hc hf hn hR hent
  go_enter Try.func54, Try.ntmps54
  go_wp2_with fail
  refine (indexFuncI_any k HE.out cap a xs c HN.out p w R HR.out HC.out HF.out).mono ?_
  rintro e w1 ⟨rfl, hR1⟩
  have HR1 := Lib.hid hR1
  clear hR1
  go_wp2
  go_ret
  exact ⟨ret_bool (idxP_ge p xs), HR1.out⟩

end Go.Proofs.Ythgkkaifdlkciaa

/- The reference's IsMachine. -/
namespace Go.Proofs.Ythgkkaifdlkciaa
open Go.RowKit
set_option linter.unusedVariables false
set_option linter.unusedSimpArgs false

/-- the letters that a state has put out before x -/
def metB (m : Mch) (q k v : Nat) : Bool := (List.range k).any fun y => decide (m.o q y = (v : Int))
theorem metB_all {m : Mch} {q k o : Nat} (ho : m.o q k = (o : Int)) : ((List.range k).all fun y => m.o q y != m.o q k) = !metB m q k o := by
  rw [metB, List.not_any_eq_all_not, ho]
  congr 1
theorem metB_succ {m : Mch} {q k o : Nat} (ho : m.o q k = (o : Int)) (v : Nat) : metB m q (k + 1) v = (metB m q k v || decide (v = o)) := by
  simp only [metB, List.range_succ, List.any_append, List.any_cons, List.any_nil, Bool.or_false, ho]
  congr 1
  simp
  omega

/-- the array of the letters met, at block B -/
structure MetAt (w : World) (B : Nat) (m : Mch) (q j : Nat) : Prop where
  val : ∀ v, v < 3 → (q : Int) < m.S → (j : Int) ≤ m.L → w.cell? ⟨B, v, none⟩ = some (.bool (metB m q j v))
  some : ∀ v, v < 3 → ∃ u, w.cell? ⟨B, v, none⟩ = some (.bool u)
  free : ∀ v, v < 3 → w.frozen? ⟨B, v, none⟩ = false

theorem MetAt.step {w : World} {B : Nat} {m : Mch} {q j o : Nat} (h : MetAt w B m q j) (ho : m.o q j = (o : Int)) (h3 : o < 3) (n : Nat) :
    MetAt ((w.drewN n).setCell ⟨B, o, none⟩ (.bool true)) B m q (j + 1) := by
  have hc : ∀ v, v < 3 → v ≠ o → ((w.drewN n).setCell ⟨B, o, none⟩ (.bool true)).cell? ⟨B, v, none⟩ = w.cell? ⟨B, v, none⟩ := fun v hv hne =>
    World.cell?_setCell_other _ _ _ _ (by simp only [ne_eq, Addr.mk.injEq, true_and, and_true]; omega)
  have hs : ((w.drewN n).setCell ⟨B, o, none⟩ (.bool true)).cell? ⟨B, o, none⟩ = Option.some (.bool true) := by
    obtain ⟨u, hu⟩ := h.some o h3
    exact World.cell?_setCell_same _ _ _ (u := .bool u) hu
  refine ⟨fun v hv a c => ?_, fun v hv => ?_, fun v hv => ?_⟩
  · rw [metB_succ ho]
    by_cases e : v = o
    · subst e; rw [hs]; simp
    · rw [hc v hv e, h.val v hv a (by omega)]; simp [e]
  · by_cases e : v = o
    · subst e; exact ⟨true, hs⟩
    · rw [hc v hv e]; exact h.some v hv
  · have := h.free v hv
    simpa using this

theorem MetAt.idle {w : World} {B : Nat} {m : Mch} {q j : Nat} (h : MetAt w B m q j) (hn : ¬ ((q : Int) < m.S ∧ (j : Int) < m.L)) (n : Nat) : MetAt (w.drewN n) B m q (j + 1) :=
  ⟨fun v hv a c => absurd ⟨a, by omega⟩ hn, h.some, h.free⟩

theorem MetAt.zero (w : World) (m : Mch) (q T : Nat) (B : Nat) (hB : B = w.heap.size) : MetAt (w.alloc (.cells #[.bool false, .bool false, .bool false] T)) B m q 0 := by
  subst hB
  refine ⟨fun v hv _ _ => ?_, fun v hv => ⟨false, ?_⟩, fun v hv => ?_⟩
  · rw [World.cell?_alloc_at _ _ _ _ rfl]
    match v, hv with | 0, _ => rfl | 1, _ => rfl | 2, _ => rfl
  · rw [World.cell?_alloc_at _ _ _ _ rfl]
    match v, hv with | 0, _ => rfl | 1, _ => rfl | 2, _ => rfl
  · rw [World.frozen?_alloc_at _ _ _ _ rfl]

set_option maxHeartbeats 4000000 in
theorem l01Is_any (m : Mch) (hwf : m.Wf) (w : World) :
    Calls Try.prog 25 #[.agg m.cells.toArray] w (Ret (.bool (machP m)) w) := by
  have hm := MAt.boxed w m 28
  have hl : (w.alloc (.cells m.cells.toArray 28)).cell? ⟨w.heap.size, 0, none⟩ = some (.int .i64 m.L) := hm.l
  have hs : (w.alloc (.cells m.cells.toArray 28)).cell? ⟨w.heap.size, 1, none⟩ = some (.int .i64 m.S) := hm.s
  have hb0 : Below w.heap.size w (w.alloc (.cells m.cells.toArray 28)) := (Below.refl _ _).alloc (Nat.le_refl _) _
  have HF : Hid (inR m.L 2 3 = false → machP m = false) := fun h => by simp [machP, h]
  have HF2 : Hid (inR m.S 1 16 = false → machP m = false) := fun h => by simp [machP, h]
  by_cases c1 : inR m.L 2 3 = true
  · by_cases c2 : inR m.S 1 16 = true
    · have hL : m.L ≤ 3 := by simp [inR] at c1; omega
      have HT : Hid (rowsUpto m 16 = true → machP m = true) := fun h => by simp [machP, c1, c2]; simpa [rowsUpto] using h
      obtain ⟨mb, hmb⟩ : ∃ mb, mb = w.heap.size := ⟨_, rfl⟩
      go_enter Try.func25, Try.ntmps25
      go_wp2_with (go_at_call 41; refine (l01In_any _ _ _ _).mono ?_; rintro e w' ⟨rfl, rfl⟩)
      go_loopw [2, 3] (fun r x wr => ∃ k : Nat, k ≤ 16 ∧ x = .int .i64 k ∧ Hid (rowsUpto m k = true) ∧ r = .bool false ∧ MAt wr w.heap.size 0 m ∧ Below w.heap.size w wr ∧ w.heap.size < wr.heap.size) (fun _ x _ => 16 - (intOf x).toNat)
      case atStart => exact ⟨0, by omega, rfl, rfl, rfl, hm, hb0, by simp⟩
      case round =>
        obtain ⟨k, hk, rfl, hu, rfl, hmr, hbr, hsz⟩ := hrel
        clear hl hs
        have hl := hmr.l
        have hs := hmr.s
        by_cases hlt : k < 16
        · have i1 : (k : Int) < 16 := by omega
          go_wp2
          obtain ⟨B, hB⟩ : ∃ B, B = wr.heap.size := ⟨_, rfl⟩
          rw [← hB]
          have HB := Lib.hid hB
          clear hl hs hB
          go_loopw [2, 5] (fun r x wi => ∃ j : Nat, j ≤ 3 ∧ x = .int .i64 j ∧ Hid (rowUpto m k j = true) ∧ r = .bool false ∧ MAt wi w.heap.size 0 m ∧ Below w.heap.size w wi ∧ w.heap.size < wi.heap.size ∧ Hid (MetAt wi B m k j)) (fun _ x _ => 3 - (intOf x).toNat)
          case atStart =>
            exact ⟨0, by omega, rfl, rfl, rfl, hmr.alloc hsz _, hbr.alloc (by omega) _, by simp; omega, MetAt.zero _ _ _ _ _ HB.out⟩
          case round =>
            obtain ⟨j, hj, rfl, hU, rfl, hmi, hbi, hszi, hMet⟩ := hrel
            have hl := hmi.l
            have hs := hmi.s
            by_cases hjlt : j < 3
            · have e2 := hmi.nn hwf hlt hjlt
              have e3 := hmi.oo hwf hlt hjlt
              have b2 : 0 ≤ m.n k j ∧ m.n k j ≤ 255 := hwf.nb (k * 3 + j)
              have b3 : 0 ≤ m.o k j ∧ m.o k j ≤ 255 := hwf.ob (k * 3 + j)
              have i2 : (0 : Int) ≤ (k : Int) := by omega
              have i3 : (j : Int) < 3 := by omega
              have i4 : (0 : Int) ≤ (j : Int) := by omega
              obtain ⟨N, hN⟩ : ∃ N, N = m.n k j := ⟨_, rfl⟩
              obtain ⟨O, hO⟩ : ∃ O, O = m.o k j := ⟨_, rfl⟩
              rw [← hN] at e2 b2
              rw [← hO] at e3 b3
              have HN := Lib.hid hN
              have HO := Lib.hid hO
              clear hN hO
              by_cases hact : (k : Int) < m.S ∧ (j : Int) < m.L
              · have HA := entry_act hact
                rw [← HN.out, ← HO.out] at HA
                obtain ⟨a1, a2⟩ := hact
                by_cases k1 : N < m.S
                · by_cases k2 : O < m.L
                  · obtain ⟨o', ho'⟩ : ∃ o' : Nat, O = o' := ⟨O.toNat, by omega⟩
                    subst ho'
                    have ho3 : o' < 3 := by omega
                    have i5 : (o' : Int) < 3 := by omega
                    have i6 : (0 : Int) ≤ (o' : Int) := by omega
                    have hc := hMet.out.val o' ho3 a1 (by omega)
                    have hf := hMet.out.free o' ho3
                    have hall := metB_all (k := j) HO.out.symm
                    rw [HO.out, hall] at HA
                    clear hall
                    have HA' := Lib.hid HA
                    clear HA
                    by_cases k3 : metB m k j o' = true
                    · rw [k3] at hc
                      have HF := Lib.hid (show machP m = false from mach_false hlt (row_false hjlt (by rw [HA'.out, k3]; simp)))
                      clear k3
                      go_wp2
                      go_quiet (fail)
                      go_wp2
                      go_ret
                      exact ⟨ret_bool HF.out.symm, below_dN hbi _⟩
                    · have k3' : metB m k j o' = false := by simpa using k3
                      rw [k3'] at hc
                      have HF := Lib.hid (show rowUpto m k (j + 1) = true by rw [rowUpto_succ, hU.out, HA'.out, k3']; simp [k1, ← HO.out, k2])
                      have HM := Lib.hid (fun v => metB_succ (k := j) (m := m) (q := k) HO.out.symm v)
                      clear k3 k3'
                      go_wp2
                      go_quiet (fail)
                      go_wp2
                      go_roundw
                      case rel => exact ⟨j + 1, by omega, by go_num, HF.out, rfl, (hmi.drewN _).setCell (by have := HB.out; simp; omega) _, (below_dN hbi _).setCell (by have := HB.out; simp; omega) _, by simp; omega, hMet.out.step HO.out.symm ho3 _⟩
                      case measure => simp [intOf]; omega
                  · have HF := Lib.hid (show machP m = false from mach_false hlt (row_false hjlt (by rw [HA]; simp [k2])))
                    clear HA
                    go_wp2
                    go_quiet (fail)
                    go_wp2
                    go_ret
                    exact ⟨ret_bool HF.out.symm, below_dN hbi _⟩
                · have HF := Lib.hid (show machP m = false from mach_false hlt (row_false hjlt (by rw [HA]; simp [k1])))
                  clear HA
                  go_wp2
                  go_quiet (fail)
                  go_wp2
                  go_ret
                  exact ⟨ret_bool HF.out.symm, below_dN hbi _⟩
              · have HA := entry_idle hact
                rw [← HN.out, ← HO.out] at HA
                have HACT := Lib.hid hact
                have HA' := Lib.hid HA
                clear HA hact
                by_cases k1 : N = 0
                · by_cases k2 : (O != 0) = true
                  · have HF := Lib.hid (show machP m = false from mach_false hlt (row_false hjlt (by rw [HA'.out]; simp at k2; simp [k2])))
                    by_cases k4 : m.S ≤ (k : Int)
                    all_goals (go_wp2; go_quiet (fail); go_wp2; go_ret; exact ⟨ret_bool HF.out.symm, below_dN hbi _⟩)
                  · have k2' : (O != 0) = false := by simpa using k2
                    clear k2
                    have HF := Lib.hid (show rowUpto m k (j + 1) = true by rw [rowUpto_succ, hU.out, HA'.out]; simp at k2'; simp [k1, k2'])
                    by_cases k4 : m.S ≤ (k : Int)
                    · go_wp2
                      go_quiet (fail)
                      go_wp2
                      go_roundw
                      case rel => exact ⟨j + 1, by omega, by go_num, HF.out, rfl, hmi.drewN _, below_dN hbi _, hszi, hMet.out.idle HACT.out _⟩
                      case measure => simp [intOf]; omega
                    · go_wp2
                      go_quiet (fail)
                      go_wp2
                      go_roundw
                      case rel => exact ⟨j + 1, by omega, by go_num, HF.out, rfl, hmi.drewN _, below_dN hbi _, hszi, hMet.out.idle HACT.out _⟩
                      case measure => simp [intOf]; omega
                · have HF := Lib.hid (show machP m = false from mach_false hlt (row_false hjlt (by rw [HA'.out]; simp [k1])))
                  by_cases k4 : m.S ≤ (k : Int)
                  all_goals (go_wp2; go_quiet (fail); go_wp2; go_ret; exact ⟨ret_bool HF.out.symm, below_dN hbi _⟩)
            · have hj3 : j = 3 := by omega
              subst hj3
              have HF := Lib.hid (show rowsUpto m (k + 1) = true by rw [rowsUpto_succ, hu.out]; exact hU.out)
              go_wp2
              go_roundw
              case rel => exact ⟨k + 1, by omega, by go_num, HF.out, rfl, hmi, hbi, hszi⟩
              case measure => simp [intOf]; omega
        · have hk16 : k = 16 := by omega
          subst hk16
          go_wp2
          go_ret
          exact ⟨ret_bool (HT.out hu.out).symm, hbr⟩
    · go_enter Try.func25, Try.ntmps25
      go_wp2_with (go_at_call 41; refine (l01In_any _ _ _ _).mono ?_; rintro e w' ⟨rfl, rfl⟩)
      go_ret
      exact ⟨ret_bool (HF2.out (by simpa using c2)).symm, hb0⟩
  · go_enter Try.func25, Try.ntmps25
    go_wp2_with (go_at_call 41; refine (l01In_any _ _ _ _).mono ?_; rintro e w' ⟨rfl, rfl⟩)
    go_ret
    exact ⟨ret_bool (HF.out (by simpa using c1)).symm, hb0⟩
end Go.Proofs.Ythgkkaifdlkciaa

/- The codes of words of towers. -/
namespace Go.Proofs.Ythgkkaifdlkciaa
open Go.RowKit
set_option linter.unusedVariables false
set_option linter.unusedSimpArgs false

end Go.Proofs.Ythgkkaifdlkciaa

/- The move of a tower. -/
namespace Go.Proofs.Ythgkkaifdlkciaa
open Go.RowKit
set_option linter.unusedVariables false
set_option linter.unusedSimpArgs false

end Go.Proofs.Ythgkkaifdlkciaa

/- MoveTower and its reference. -/
namespace Go.Proofs.Ythgkkaifdlkciaa
open Go.RowKit
set_option linter.unusedVariables false
set_option linter.unusedSimpArgs false

def goodXY (x y : Int) : Prop := 0 ≤ x ∧ x ≤ 2 ∧ x < y ∧ y ≤ 2
instance (x y : Int) : Decidable (goodXY x y) := by unfold goodXY; infer_instance
/-- it returns two values; what was there stays as it was -/
def Ret2 (v u : Value) (w : World) (e : Ending) (w' : World) : Prop := e = .returned (.tuple #[v, u]) ∧ Below w.heap.size w w'
theorem ret2_of {v v' : ByteArray} {u u' : Int} (h : v = v') (k : u = u') : Ending.returned (.tuple #[.string v, .int .i64 u]) = .returned (.tuple #[.string v', .int .i64 u']) := by rw [h, k]

end Go.Proofs.Ythgkkaifdlkciaa

/- The reference's codes of machines, states and words; what a state makes of a word. -/
namespace Go.Proofs.Ythgkkaifdlkciaa
open Go.RowKit
set_option linter.unusedVariables false
set_option linter.unusedSimpArgs false

theorem boxedBelow (w : World) (c : Array Value) (T : TypeId) : Below w.heap.size w (w.alloc (.cells c T)) := (Below.refl _ _).alloc (Nat.le_refl _) _
theorem MAt.keep {w w' : World} {b o : Nat} {m : Mch} (h : MAt w b o m) (hb : Below w.heap.size w w') (hw : m.Wf) : MAt w' b o m := h.below hb (World.block_lt_of_cell? w ⟨b, o, none⟩ h.l)

theorem Try.info5 : (Try.prog.info? 5).map (fun i => (i.zero, i.size, i.bytes)) = some (some (.int .u8 0), 1, 1) := by kernel_rfl

/-- the text out of an owned row of bytes -/
theorem own_str {w : World} {base : Nat} {v : Value} {ns : List Int} (h : w.ownsRow base 5 1 v ns.length (u8s ns)) :
    (convert 108 9 v).run Try.prog w = .ok (.string (strOfNums ns)) w := by
  rcases h.2 with ⟨rfl, h0⟩ | ⟨g, cap, cur, rfl, _, hg, hn, _, _, ht⟩
  · have : ns = [] := List.length_eq_zero_iff.1 h0
    subst this
    exact run_convert_bytes_nil w 108 5 Try.underlying108 Try.underlying5 0 0 9 Try.underlying9
  · refine run_convert_bytes_arg w 108 5 Try.underlying108 Try.underlying5 g 0 ns.length cap ns rfl (fun i hi => ?_) 9 Try.underlying9
    have := h.cells (g := g) rfl i (.int .u8 (ns[i]?.getD 0)) (u8s_get hi)
    rw [Addr.add_mid] at this
    rw [this]
    simp [List.getD]

/-- behind an append to an owned row: what lies below its base is as it was -/
theorem grown_below {B : Nat} {w wr w1 : World} {base E n : Nat} {v : Value} {xs : List Value} {o : Obj} (hb : Below B w wr) (hown : wr.ownsRow base E 1 v n xs) (hB : B ≤ base) (hsz : B ≤ wr.heap.size) (hg : (wr.alloc o).grownBy w1 v.ownBlock) :
    Below B w w1 ∧ wr.heap.size < w1.heap.size ∧ ∀ b, b < base → b < wr.heap.size → w1.heap[b]? = wr.heap[b]? := by
  have hb' := hb.alloc hsz o
  have hlt := fun k hk => (hown.alloc o).lt k hk
  refine ⟨hb'.grown hg (by simp; omega) (fun k hk => by have := hlt k hk; omega), ?_, fun b h1 h2 => ?_⟩
  · have := hg.size; simp at this; omega
  · rw [hg.block b (by simp; omega) (fun e => by have := hlt b e.symm; omega)]
    exact Below.heap_alloc _ _ _ h2
theorem MAt.same {w w' : World} {b o : Nat} {m : Mch} (h : MAt w b o m) (e : w'.heap[b]? = w.heap[b]?) : MAt w' b o m := fun j v hj => (World.cell?_of_block (w := w) (a := ⟨b, o + j, none⟩) e).trans (h j v hj)

def outsP (m : Mch) (q : Nat) (s : ByteArray) (k : Nat) : List Int := (runL m q ((lts s).take k)).1.map fun x : Nat => ((48 + x : Nat) : Int)
def secP (m : Mch) (q : Nat) (s : ByteArray) (k : Nat) : Nat := (runL m q ((lts s).take k)).2
theorem outsP_succ {m : Mch} {q : Nat} {s : ByteArray} {k : Nat} (hk : k < s.size) : outsP m q s (k + 1) = outsP m q s k ++ [((48 + m.on (secP m q s k) ((s[k]).toNat - 48) : Nat) : Int)] := by
  simp only [outsP, secP, lts_take_succ hk, runL_snoc, List.map_append, List.map_cons, List.map_nil]
theorem secP_succ {m : Mch} {q : Nat} {s : ByteArray} {k : Nat} (hk : k < s.size) : secP m q s (k + 1) = m.nn (secP m q s k) ((s[k]).toNat - 48) := by
  simp only [secP, lts_take_succ hk, runL_snoc]
theorem outsP_length {m : Mch} {q : Nat} {s : ByteArray} {k : Nat} (hk : k ≤ s.size) : (outsP m q s k).length = k := by
  simp [outsP, runL_length, lts_length]; omega
theorem secP_lt {m : Mch} (hok : m.Ok) (hwf : m.Wf) {q : Nat} (hq : q < m.s) {s : ByteArray} (hs : letsP m.L s = true) (k : Nat) : secP m q s k < m.s :=
  runL_state hok hwf _ q hq fun x hx => lts_lt hok hs x (List.mem_of_mem_take hx)
theorem outsP_all {m : Mch} {q : Nat} {s : ByteArray} : strOfNums (outsP m q s s.size) = txt (runL m q (lts s)).1 := by
  rw [outsP, txt, List.take_of_length_le (by rw [lts_length]; exact Nat.le_refl _)]
theorem secP_all {m : Mch} {q : Nat} {s : ByteArray} : secP m q s s.size = (runL m q (lts s)).2 := by
  rw [secP, List.take_of_length_le (by rw [lts_length]; exact Nat.le_refl _)]

set_option maxRecDepth 100000 in
set_option maxHeartbeats 2000000 in
theorem l01Act_any (m : Mch) (hwf : m.Wf) (hok : m.Ok) (q : Nat) (hq : q < m.s) (s : ByteArray) (hs : letsP m.L s = true) (h40 : s.size ≤ 40) (w : World) :
    Calls Try.prog 61 #[.agg m.cells.toArray, .int .i64 q, .string s] w fun e w' => e = .returned (.tuple #[.string (txt (runL m q (lts s)).1), .int .i64 (runL m q (lts s)).2]) ∧ Below w.heap.size w w' := by
  have hm := MAt.boxed w m 28
  have hb0 := boxedBelow w m.cells.toArray 28
  obtain ⟨i0, hi, hz0, hz1, hz2⟩ := info_parts Try.info5
  have HS := Lib.hid hs
  have HQ := Lib.hid hq
  clear hs hq
  go_enter Try.func61, Try.ntmps61
  go_wp2
  go_loopw [1, 8, 9] (fun qv v i wr => ∃ k : Nat, k ≤ s.size ∧ i = .int .i64 k ∧ qv = .int .i64 (secP m q s k) ∧ wr.ownsRow (w.heap.size + 1) 5 1 v (outsP m q s k).length (u8s (outsP m q s k)) ∧ MAt wr w.heap.size 0 m ∧ Below w.heap.size w wr ∧ w.heap.size + 1 ≤ wr.heap.size) (fun _ _ i _ => s.size - (intOf i).toNat)
  case atStart =>
    refine ⟨0, Nat.zero_le _, rfl, rfl, ?_, hm.alloc (by simp) _, hb0.alloc (by simp) _, by simp⟩
    have := World.ownsRow_made (base := w.heap.size + 1) (e := 5) (size := 1) (w.alloc (.cells m.cells.toArray 28)) #[] 0 (by simp) (by simp [maxLen]) (by simp)
    simpa [outsP, runL, u8s] using this
  case round =>
    obtain ⟨k, hk, rfl, rfl, hown, hmr, hbr, hsz⟩ := hrel
    by_cases hlt : k < s.size
    · obtain ⟨x, hx⟩ : ∃ x : Nat, (s[k]).toNat = 48 + x := ⟨(s[k]).toNat - 48, by have := (lets_at HS.out hlt).1; omega⟩
      have hxL : x < m.l := by have := (lets_at HS.out hlt).2; have := hok.L_eq; omega
      have hx3 : x < 3 := by have := hok.l_le; omega
      have hqs := secP_lt hok hwf HQ.out HS.out k
      have hq16 : secP m q s k < 16 := by have := hok.s_le; omega
      have e3 := hmr.oo hwf hq16 hx3
      have e2 := hmr.nn hwf hq16 hx3
      rw [hok.o_eq hwf hqs hxL] at e3
      rw [hok.n_eq hwf hqs hxL] at e2
      have hy := hok.on_lt hwf hqs hxL
      have hy3 : m.on (secP m q s k) x < 3 := by have := hok.l_le; omega
      have hn16 : m.nn (secP m q s k) x < 16 := by have := hok.nn_lt hwf hqs hxL; have := hok.s_le; omega
      have HO := Lib.hid (show outsP m q s (k + 1) = outsP m q s k ++ [((48 + m.on (secP m q s k) x : Nat) : Int)] by rw [outsP_succ hlt, hx, Nat.add_sub_cancel_left])
      have HT := Lib.hid (show secP m q s (k + 1) = m.nn (secP m q s k) x by rw [secP_succ hlt, hx, Nat.add_sub_cancel_left])
      have HLEN := Lib.hid (outsP_length (m := m) (q := q) (s := s) hk)
      have hbx : ((s[k]).toNat : Int) = 48 + (x : Int) := by omega
      clear hx hxL hqs hm
      generalize m.on (secP m q s k) x = y at *
      generalize m.nn (secP m q s k) x = z at *
      obtain ⟨p, hp⟩ : ∃ p, p = secP m q s k := ⟨_, rfl⟩
      rw [← hp] at hq16 e2 e3
      rw [← hp]
      have HP := Lib.hid hp
      clear hp
      have i1 : (p : Int) < 16 := by omega
      have i2 : (x : Int) < 3 := by omega
      have i3 : (y : Int) < 3 := by omega
      go_wp2_with (at_builtin; refine wpList_append_own _ rfl _ _ 108 rfl (w.heap.size + 1) 5 i0 (.int .u8 0) 1 1 Try.underlying108 hi hz0 hz1 hz2 rfl (by decide) _ _ _ rfl (hown.alloc _) ⟨wr.heap.size, 0, none⟩ 1 1 [.int .u8 (48 + y)] rfl rfl ?c1 ?c2 ?c3 ?c4 ?c5 ?_)
      case c1 =>
        intro j u hj
        match j, hj with
        | 0, hj => simp at hj; subst hj; simp [Addr.add]
      case c2 => intro u hu; simp at hu; subst hu; rfl
      case c3 => rw [HLEN.out]; unfold maxLen; omega
      case c4 => rw [HLEN.out]; omega
      case c5 => simp; omega
      intro v' w1 hown' hgrow _
      obtain ⟨hb1, hsz1, hsame⟩ := grown_below hbr hown (by omega) (by omega) hgrow
      have hm1 := hmr.same (hsame w.heap.size (by omega) (by omega))
      have e2' : w1.cell? ⟨w.heap.size, 0 + 2 + p * 3 + x, none⟩ = some (.int .u8 z) := (World.cell?_of_block (w := wr) (hsame w.heap.size (by omega) (by omega))).trans e2
      clear hown e2 e3 hmr
      go_wp2
      go_roundw
      case rel => exact ⟨k + 1, by omega, by go_num, by rw [HT.out], by rw [HO.out, List.length_append]; simpa [u8s] using hown', hm1, hb1, by omega⟩
      case measure => simp [intOf]; omega
    · have hk' : k = s.size := by omega
      subst hk'
      have hstr := own_str hown
      have HT := Lib.hid (outsP_all (m := m) (q := q) (s := s))
      have HU := Lib.hid (secP_all (m := m) (q := q) (s := s))
      go_wp2
      go_ret2
      exact ⟨ret2_of HT.out (by rw [HU.out]), hbr⟩
end Go.Proofs.Ythgkkaifdlkciaa
