/- A function's own memory in one bundle: blocks known whole, and slices that grow. -/
import Derived.Test.YtmacnofkpdikiaaR0
namespace Go.Proofs.Ytmacnofkpdikiaa
open Go.RowKit
set_option linter.unusedVariables false
set_option linter.unusedSimpArgs false

/-- since w0, memory from block B on is the call's own: the blocks L are known whole, the slices G own their rows; all lie apart -/
structure Mm (B : Nat) (w0 w : World) (L : List (Nat × List Value × TypeId)) (G : List (Value × TypeId × List Value)) : Prop where
  below : Below B w0 w
  size : B ≤ w.heap.size
  blk : ∀ x ∈ L, B ≤ x.1 ∧ Blk w x.1 x.2.1 x.2.2
  dist : L.Pairwise fun x y => x.1 ≠ y.1
  own : ∀ x ∈ G, w.ownsRow B x.2.1 1 x.1 x.2.2.length x.2.2
  sep : ∀ x ∈ G, ∀ y ∈ L, x.1.ownBlock ≠ some y.1
  gdist : G.Pairwise fun x y => ∀ b, x.1.ownBlock = some b → y.1.ownBlock ≠ some b

theorem Mm.start (w : World) : Mm w.heap.size w w [] [] :=
  ⟨Below.refl _ _, Nat.le_refl _, fun _ h => (by cases h), List.Pairwise.nil, fun _ h => (by cases h), fun _ h => (by cases h), List.Pairwise.nil⟩

section
variable {B : Nat} {w0 w : World} {L : List (Nat × List Value × TypeId)} {G : List (Value × TypeId × List Value)}

theorem Mm.ownlt (h : Mm B w0 w L G) {x : Value × TypeId × List Value} (hx : x ∈ G) {g : Nat} (hg : x.1.ownBlock = some g) : g < w.heap.size := (World.ownsRow.lt (h.own x hx) g hg).2

/-- a call that leaves all that was there as it was -/
theorem Mm.call (h : Mm B w0 w L G) {w' : World} (hb : Below w.heap.size w w') : Mm B w0 w' L G := by
  refine ⟨h.below.trans (hb.mono h.size), Nat.le_trans h.size hb.size, fun x hx => ⟨(h.blk x hx).1, (h.blk x hx).2.keep hb⟩, h.dist, fun x hx => ?_, h.sep, h.gdist⟩
  have hg : w.grownBy w' none := ⟨hb.os, hb.tape, hb.output, hb.size, fun k hk _ => hb.block k hk⟩
  exact World.ownsRow.kept (h.own x hx) hg (by by_cases e : x.1.ownBlock = none <;> simp [e])
theorem Mm.drewN (h : Mm B w0 w L G) (n : Nat) : Mm B w0 (w.drewN n) L G := h.call ⟨rfl, rfl, rfl, Nat.le_refl _, fun _ _ => rfl⟩
theorem Mm.drew (h : Mm B w0 w L G) : Mm B w0 w.drew L G := h.drewN 1
theorem Mm.allocO (h : Mm B w0 w L G) (o : Obj) : Mm B w0 (w.alloc o) L G := h.call ((Below.refl _ _).alloc (Nat.le_refl _) _)
theorem Mm.alloc (h : Mm B w0 w L G) (cs : Array Value) (T : TypeId) : Mm B w0 (w.alloc (.cells cs T)) ((w.heap.size, cs.toList, T) :: L) G := by
  have h' := h.allocO (.cells cs T)
  refine ⟨h'.below, h'.size, fun x hx => ?_, List.pairwise_cons.2 ⟨fun y hy => ?_, h.dist⟩, h'.own, fun x hx y hy => ?_, h.gdist⟩
  · rcases List.mem_cons.1 hx with rfl | hx
    · exact ⟨h.size, Blk.new w cs T⟩
    · exact h'.blk x hx
  · have := (h.blk y hy).2.lt; simp only; omega
  · rcases List.mem_cons.1 hy with rfl | hy
    · intro e; have := h.ownlt hx e; omega
    · exact h.sep x hx y hy
/-- a slice header over no memory, or a row that is known whole, becomes one that grows -/
theorem Mm.addNil (h : Mm B w0 w L G) (E : TypeId) (c : Nat := 0) : Mm B w0 w L ((.slice none 0 0, E, []) :: G) := by
  refine ⟨h.below, h.size, h.blk, h.dist, fun x hx => ?_, fun x hx y hy => ?_, List.pairwise_cons.2 ⟨fun y hy b e => by simp [Value.ownBlock] at e, h.gdist⟩⟩
  · rcases List.mem_cons.1 hx with rfl | hx
    · exact World.ownsRow_nil _ _ _ _
    · exact h.own x hx
  · rcases List.mem_cons.1 hx with rfl | hx
    · simp [Value.ownBlock]
    · exact h.sep x hx y hy
theorem Mm.addOwn (h : Mm B w0 w L G) {b : Nat} {cs : List Value} {T : TypeId} (hb : (b, cs, T) ∈ L) (n : Nat) (hn : n = cs.length) (hm : n ≤ 2000000) : Mm B w0 w (L.filter fun x => x.1 != b) ((.slice (some ⟨b, 0, none⟩) n n, T, cs) :: G) := by
  subst hn
  have hB := h.blk _ hb
  refine ⟨h.below, h.size, fun x hx => h.blk x (List.mem_filter.1 hx).1, h.dist.sublist List.filter_sublist, fun x hx => ?_, fun x hx y hy => ?_, List.pairwise_cons.2 ⟨fun y hy c e => ?_, h.gdist⟩⟩
  · rcases List.mem_cons.1 hx with rfl | hx
    · refine ⟨by simp, .inr ⟨b, cs.length, cs.toArray, rfl, hB.1, hB.2, ?_⟩⟩
      simp [maxLen]; omega
    · exact h.own x hx
  · obtain ⟨hy1, hy2⟩ := List.mem_filter.1 hy
    rcases List.mem_cons.1 hx with rfl | hx
    · simp only [Value.ownBlock]; intro e; simp at e hy2; exact hy2 e.symm
    · exact h.sep x hx y hy1
  · simp only [Value.ownBlock, Option.some.injEq] at e
    subst e
    exact h.sep y hy _ hb

/-- blocks that are no longer looked at -/
theorem Mm.sub (h : Mm B w0 w L G) {L' : List (Nat × List Value × TypeId)} (hs : L'.Sublist L) : Mm B w0 w L' G :=
  ⟨h.below, h.size, fun x hx => h.blk x (hs.subset hx), h.dist.sublist hs, h.own, fun x hx y hy => h.sep x hx y (hs.subset hy), h.gdist⟩
/-- a call that hands a slice of its own back -/
theorem Mm.callOwn (h : Mm B w0 w L G) {w' : World} (hb : Below w.heap.size w w') {v : Value} {E : TypeId} {n : Nat} {xs : List Value} (ho : w'.ownsRow w.heap.size E 1 v n xs) (hn : n = xs.length) : Mm B w0 w' L ((v, E, xs) :: G) := by
  subst hn
  have h' := h.call hb
  have hge : ∀ g, v.ownBlock = some g → w.heap.size ≤ g := fun g hg => (World.ownsRow.lt ho g hg).1
  have ho' : w'.ownsRow B E 1 v xs.length xs := by
    refine ⟨ho.1, ?_⟩
    rcases ho.2 with hn | ⟨g, cap, cur, hv, h1, rest⟩
    · exact .inl hn
    · exact .inr ⟨g, cap, cur, hv, Nat.le_trans h.size h1, rest⟩
  refine ⟨h'.below, h'.size, h'.blk, h'.dist, fun x hx => ?_, fun x hx y hy => ?_, List.pairwise_cons.2 ⟨fun y hy b e e' => ?_, h.gdist⟩⟩
  · rcases List.mem_cons.1 hx with rfl | hx
    · exact ho'
    · exact h'.own x hx
  · rcases List.mem_cons.1 hx with rfl | hx
    · intro e; have := hge _ e; have := (h.blk y hy).2.lt; omega
    · exact h.sep x hx y hy
  · have := hge _ e; have := h.ownlt hy e'; omega

theorem mem_of_get {α : Type} {l : List α} {i : Nat} {x : α} (h : l[i]? = some x) : x ∈ l := List.mem_of_getElem? h
theorem Mm.at (h : Mm B w0 w L G) (i : Nat) {x : Nat × List Value × TypeId} (hi : L[i]? = some x) : Blk w x.1 x.2.1 x.2.2 := (h.blk x (mem_of_get hi)).2
theorem pairwise_get {α : Type} {R : α → α → Prop} (hs : ∀ x y, R x y → R y x) {l : List α} (h : l.Pairwise R) {i j : Nat} {x y : α} (hi : l[i]? = some x) (hj : l[j]? = some y) (hne : i ≠ j) : R x y := by
  rw [List.pairwise_iff_getElem] at h
  obtain ⟨hi', rfl⟩ := List.getElem?_eq_some_iff.1 hi
  obtain ⟨hj', rfl⟩ := List.getElem?_eq_some_iff.1 hj
  rcases Nat.lt_or_ge i j with c | c
  · exact h i j hi' hj' c
  · exact hs _ _ (h j i hj' hi' (by omega))

theorem mem_set_of {α : Type} {l : List α} {i : Nat} {x y : α} (h : x ∈ l.set i y) : x = y ∨ ∃ j, j ≠ i ∧ l[j]? = some x := by
  obtain ⟨j, hj⟩ := List.mem_iff_getElem?.1 h
  by_cases e : j = i
  · subst e
    rw [List.getElem?_set] at hj
    simp only [if_true] at hj
    split at hj
    · exact .inl (Option.some.inj hj).symm
    · cases hj
  · rw [List.getElem?_set_ne (Ne.symm e)] at hj
    exact .inr ⟨j, e, hj⟩

/-- cells of the block number i are written -/
theorem Mm.setCells (h : Mm B w0 w L G) (i : Nat) {b : Nat} {cs : List Value} {T : TypeId} (hi : L[i]? = some (b, cs, T)) (o : Nat) (vs : List Value) : Mm B w0 (w.setCells b o vs) (L.set i (b, splice cs o vs, T)) G := by
  have hb := h.blk _ (mem_of_get hi)
  have hsym : ∀ x y : Nat × List Value × TypeId, x.1 ≠ y.1 → y.1 ≠ x.1 := fun _ _ h => Ne.symm h
  have hsz : (w.setCells b o vs).heap.size = w.heap.size := size_setCells b vs w o
  refine ⟨below_setCells hb.1 vs h.below o, by rw [hsz]; exact h.size, fun x hx => ?_, ?_, fun x hx => ?_, fun x hx y hy => ?_, h.gdist⟩
  · rcases mem_set_of hx with rfl | ⟨j, hj, hx⟩
    · exact ⟨hb.1, hb.2.setCells vs o⟩
    · have := h.blk x (mem_of_get hx)
      exact ⟨this.1, this.2.setsOther (pairwise_get hsym h.dist hx hi hj) vs o⟩
  · have e : (L.set i (b, splice cs o vs, T)).map (·.1) = L.map (·.1) := by
      rw [List.map_set]
      apply List.ext_getElem?
      intro k
      by_cases hk : k = i
      · subst hk
        have hlt : k < L.length := (List.getElem?_eq_some_iff.1 hi).1
        rw [List.getElem?_set_self (by simpa using hlt), List.getElem?_map, hi]; rfl
      · rw [List.getElem?_set_ne (Ne.symm hk)]
    have hd : (L.map (·.1)).Pairwise (· ≠ ·) := List.pairwise_map.2 h.dist
    rw [← e] at hd
    exact List.pairwise_map.1 hd
  · have ho := h.own x hx
    refine ⟨ho.1, ?_⟩
    rcases ho.2 with hn | ⟨g, cap, cur, hv, h1, h2, rest⟩
    · exact .inl hn
    · have hg : Blk w g cur.toList x.2.1 := by show _ = _; simpa using h2
      have hne : g ≠ b := fun e => h.sep x hx _ (mem_of_get hi) (by rw [hv, e]; rfl)
      have := hg.setsOther hne vs o
      exact .inr ⟨g, cap, cur, hv, h1, by simpa [Blk] using this, rest⟩
  · rcases mem_set_of hy with rfl | ⟨j, hj, hy⟩
    · exact h.sep x hx (b, cs, T) (mem_of_get hi)
    · exact h.sep x hx y (mem_of_get hy)
theorem Mm.setCell (h : Mm B w0 w L G) (i : Nat) {b : Nat} {cs : List Value} {T : TypeId} (hi : L[i]? = some (b, cs, T)) (o : Nat) (v : Value) : Mm B w0 (w.setCell ⟨b, o, none⟩ v) (L.set i (b, cs.set o v, T)) G := h.setCells i hi o [v]
theorem Mm.setAll (h : Mm B w0 w L G) (i : Nat) {b : Nat} {cs : List Value} {T : TypeId} (hi : L[i]? = some (b, cs, T)) {vs : List Value} (hl : vs.length = cs.length) : Mm B w0 (w.setCells b 0 vs) (L.set i (b, vs, T)) G := by
  have := h.setCells i hi 0 vs
  rwa [splice_all hl] at this

/-- an append to the slice number i, behind a new block with what is put in -/
theorem Mm.grow (h : Mm B w0 w L G) (i : Nat) {v : Value} {E : TypeId} {xs : List Value} (hi : G[i]? = some (v, E, xs)) (o : Obj) {news : List Value} {g cap m : Nat} {w' : World} (hm : m = news.length)
    (hown : w'.ownsRow B E 1 (.slice (some ⟨g, 0, none⟩) (xs.length + m) cap) (xs.length + m) (xs ++ news)) (hgrow : (w.alloc o).grownBy w' v.ownBlock) (hlies : v.ownBlock = some g ∨ g = (w.alloc o).heap.size) :
    Mm B w0 w' L (G.set i (.slice (some ⟨g, 0, none⟩) (xs.length + m) cap, E, xs ++ news)) := by
  have hv := mem_of_get hi
  have hs : (w.alloc o).heap.size = w.heap.size + 1 := by simp
  have hsz := hgrow.size
  have ha := h.allocO o
  have hblock : ∀ k, k < w.heap.size → v.ownBlock ≠ some k → w'.heap[k]? = w.heap[k]? := fun k hk hne =>
    (hgrow.block k (by omega) (Ne.symm hne)).trans (Below.heap_alloc w o k hk)
  have hnb : ∀ k, k < w.heap.size → v.ownBlock ≠ some k → (Value.slice (some ⟨g, 0, none⟩) (xs.length + m) cap).ownBlock ≠ some k := fun k hk hne e => by
    simp only [Value.ownBlock, Option.some.injEq] at e
    rcases hlies with h' | h'
    · rw [h', e] at hne; exact hne rfl
    · omega
  have hsym : ∀ x y : Value × TypeId × List Value, (∀ b, x.1.ownBlock = some b → y.1.ownBlock ≠ some b) → ∀ b, y.1.ownBlock = some b → x.1.ownBlock ≠ some b := fun x y h b e e' => h b e' e
  refine ⟨?_, by have := h.size; omega, fun x hx => ⟨(h.blk x hx).1, (hblock _ (h.blk x hx).2.lt (h.sep _ hv x hx)).trans (h.blk x hx).2⟩, h.dist, fun x hx => ?_, fun x hx y hy => ?_, ?_⟩
  · refine ⟨hgrow.os.trans ha.below.os, hgrow.tape.trans ha.below.tape, hgrow.output.trans ha.below.output, by have := h.below.size; omega, fun k hk => ?_⟩
    have hkw : k < w.heap.size := by have := h.size; omega
    exact (hblock k hkw (fun e => by have := (World.ownsRow.lt (h.own _ hv) k e).1; omega)).trans (h.below.block k hk)
  · rcases mem_set_of hx with rfl | ⟨j, hj, hx⟩
    · have : (xs ++ news).length = xs.length + m := by rw [List.length_append, hm]
      simp only [this]
      exact hown
    · have ho := h.own x (mem_of_get hx)
      refine ⟨ho.1, ?_⟩
      rcases ho.2 with hn | ⟨g', cap', cur, hv', h1, h2, rest⟩
      · exact .inl hn
      · have hlt := h.ownlt (mem_of_get hx) (by rw [hv']; rfl : x.1.ownBlock = some g')
        exact .inr ⟨g', cap', cur, hv', h1, (hblock g' hlt (pairwise_get hsym h.gdist hx hi hj g' (by rw [hv']; rfl))).trans h2, rest⟩
  · rcases mem_set_of hx with rfl | ⟨j, hj, hx⟩
    · exact hnb _ (h.blk y hy).2.lt (h.sep _ hv y hy)
    · exact h.sep x (mem_of_get hx) y hy
  · rw [List.pairwise_iff_getElem]
    intro a b ha' hb' hab c e
    simp only [List.getElem_set] at e ⊢
    simp only [List.length_set] at ha' hb'
    by_cases e1 : i = a
    · subst e1
      simp only [if_true] at e
      rw [if_neg (by omega)]
      intro e2
      have hlt := h.ownlt (List.getElem_mem hb') e2
      exact hnb c hlt (pairwise_get hsym h.gdist (List.getElem?_eq_getElem hb') hi (by omega) c e2) e
    · rw [if_neg e1] at e
      by_cases e2 : i = b
      · subst e2
        simp only [if_true]
        have hlt := h.ownlt (List.getElem_mem ha') e
        exact hnb c hlt (pairwise_get hsym h.gdist (List.getElem?_eq_getElem ha') hi (by omega) c e)
      · rw [if_neg e2]
        exact (List.pairwise_iff_getElem.1 h.gdist) a b ha' hb' hab c e

theorem Mm.mach (h : Mm B w0 w L G) (i : Nat) {b : Nat} {m : Mch} {T : TypeId} (hi : L[i]? = some (b, m.cells, T)) : MAt w b 0 m := (h.at i hi).all

/-- 'out = append(out, u)', u of one cell, to the slice number i -/
theorem Mm.appendAt {P : Program} {ops : Array Oper} {rest : List Oper} {o : Oper} {a : Act} {Q : Exit → Act → World → Prop} (hgd : o.guard = none) (s x : Operand) (t : TypeId)
    (ho : o.op = .call { callee := .builtin .append, args := #[s, x], argTypes := #[t, t] })
    (h : Mm B w0 w L G) (i : Nat) {v : Value} {E : TypeId} {xs : List Value} (hi : G[i]? = some (v, E, xs)) {i0 : TypeInfo} {z : Value} {bytes : Nat} (ht : P.underlying t = some (.slice E)) (hI : P.info? E = some i0) (hz : i0.zero = some z)
    (hsize : i0.size = 1) (hby : i0.bytes = bytes) (hzs : z.cells.size = 1) {u : Value} (hs : a.eval s = v) (b : Nat) (hb : w.heap.size = b) (hx : a.eval x = .slice (some ⟨b, 0, none⟩) 1 1) (hu : u.oneCell' = true)
    (hlen : xs.length ≤ 1000000) (hbytes : bytes ≤ 1000)
    (hk : ∀ g cap w', Mm B w0 w' L (G.set i (.slice (some ⟨g, 0, none⟩) (xs.length + 1) cap, E, xs ++ [u])) → wpList P ops Q rest (a.put o.dst (.slice (some ⟨g, 0, none⟩) (xs.length + 1) cap)) w') :
    wpList P ops Q (o :: rest) a (w.alloc (.cells #[u] E)) := by
  subst hb
  refine wpList_append_lies _ hgd s x t ho B E i0 z 1 bytes ht hI hz hsize hby hzs (by decide) v xs.length xs hs (World.ownsRow.alloc (h.own _ (mem_of_get hi)) _) ⟨w.heap.size, 0, none⟩ 1 1 [u] hx rfl ?_ ?_ (by omega) ?_ ?_ ?_ _ rfl ?_
  · intro j y hj
    have hb := Blk.new w #[u] E
    have hadd : (⟨w.heap.size, 0, none⟩ : Addr).add j = ⟨w.heap.size, j, none⟩ := by unfold Addr.add; split <;> simp_all
    rw [hadd]
    exact hb.cell' hj
  · intro y hy
    rw [List.mem_singleton] at hy
    rw [hy]; exact hu
  · simp [maxLen]; omega
  · calc (xs.length + 1) * bytes ≤ 1000001 * 1000 := Nat.mul_le_mul (by omega) hbytes
      _ ≤ _ := by omega
  · have := h.size; simp; omega
  · intro g cap w' hown hgrow hlies hlt
    exact hk g cap w' (h.grow i hi _ rfl hown hgrow hlies)

theorem Mm.append {P : Program} {ops : Array Oper} {rest : List Oper} {o : Oper} {a : Act} {Q : Exit → Act → World → Prop} (hgd : o.guard = none) (s x : Operand) (t : TypeId)
    (ho : o.op = .call { callee := .builtin .append, args := #[s, x], argTypes := #[t, t] })
    (h : Mm B w0 w L G) (i : Nat) {v : Value} {E : TypeId} {xs : List Value} (hi : G[i]? = some (v, E, xs)) {i0 : TypeInfo} {z : Value} {bytes : Nat} (ht : P.underlying t = some (.slice E)) (hI : P.info? E = some i0) (hz : i0.zero = some z)
    (hsize : i0.size = 1) (hby : i0.bytes = bytes) (hzs : z.cells.size = 1) {u : Value} (hs : a.eval s = v) (hx : a.eval x = .slice (some ⟨w.heap.size, 0, none⟩) 1 1) (hu : u.oneCell' = true)
    (hlen : xs.length ≤ 1000000) (hbytes : bytes ≤ 1000)
    (hk : ∀ g cap w', Mm B w0 w' L (G.set i (.slice (some ⟨g, 0, none⟩) (xs.length + 1) cap, E, xs ++ [u])) → wpList P ops Q rest (a.put o.dst (.slice (some ⟨g, 0, none⟩) (xs.length + 1) cap)) w') :
    wpList P ops Q (o :: rest) a (w.alloc (.cells #[u] E)) := Mm.appendAt hgd s x t ho h i hi ht hI hz hsize hby hzs hs _ rfl hx hu hlen hbytes hk

end
end Go.Proofs.Ytmacnofkpdikiaa
