import Derived.Test.YteagecoiijhflaaYBall08
/- A function's own memory in one bundle, the elements of its slices of any size. -/
namespace Go.Proofs.Yteagecoiijhflaa
open Go.RowKit
set_option linter.unusedVariables false
set_option linter.unusedSimpArgs false

theorem rowKeep {w w' : World} {B n sz : Nat} {E : TypeId} {v : Value} {xs : List Value} (h : w.ownsRow B E sz v n xs) (hb : Below w.heap.size w w') : w'.ownsRow B E sz v n xs := by
  have hg : w.grownBy w' none := ⟨hb.os, hb.tape, hb.output, hb.size, fun k hk _ => hb.block k hk⟩
  exact World.ownsRow.kept h hg (by by_cases e : v.ownBlock = none <;> simp [e])
theorem fold_zip' : ∀ (P : List Value) (k : Nat) (z : Array Value), k + P.length ≤ z.size → (List.foldl (fun cs (x : Value × Nat) => cs.setIfInBounds x.2 x.1) z (P.zipIdx k)).toList = z.toList.take k ++ P ++ z.toList.drop (k + P.length)
  | [], k, z, _ => by simp
  | v :: P, k, z, h => by
    simp only [List.length_cons] at h
    rw [List.zipIdx_cons, List.foldl_cons, fold_zip' P (k + 1) _ (by simp; omega)]
    simp only [Array.toList_setIfInBounds, List.length_cons]
    have hk : k < z.toList.length := by simp; omega
    rw [List.take_succ_eq_append_getElem (by simpa using hk), List.take_set_of_le (Nat.le_refl k), List.getElem_set_self, List.drop_set_of_lt (by omega)]
    rw [show k + 1 + P.length = k + (P.length + 1) by omega]
    simp
theorem fold_zip {z : Array Value} {P : List Value} (h : z.size = P.length) : (List.foldl (fun cs (x : Value × Nat) => cs.setIfInBounds x.2 x.1) z P.zipIdx).toList = P := by
  rw [fold_zip' P 0 z (by omega)]
  simp only [List.take_zero, List.nil_append, Nat.zero_add]
  rw [List.drop_eq_nil_of_le (by simp [h]), List.append_nil]
/-- a slice with a row of its own: n elements of z cells each -/
structure Gr where
  v : Value
  E : TypeId
  z : Nat
  n : Nat
  cs : List Value
def Gr.of (x : Value × TypeId × List Value) : Gr := ⟨x.1, x.2.1, 1, x.2.2.length, x.2.2⟩
structure Mg (B : Nat) (w0 w : World) (L : List (Nat × List Value × TypeId)) (G : List Gr) : Prop where
  below : Below B w0 w
  size : B ≤ w.heap.size
  blk : ∀ x ∈ L, B ≤ x.1 ∧ Blk w x.1 x.2.1 x.2.2
  dist : L.Pairwise fun x y => x.1 ≠ y.1
  own : ∀ x ∈ G, w.ownsRow B x.E x.z x.v x.n x.cs
  sep : ∀ x ∈ G, ∀ y ∈ L, x.v.ownBlock ≠ some y.1
  gdist : G.Pairwise fun x y => ∀ b, x.v.ownBlock = some b → y.v.ownBlock ≠ some b

theorem Mg.start (w : World) : Mg w.heap.size w w [] [] :=
  ⟨Below.refl _ _, Nat.le_refl _, fun _ h => (by cases h), List.Pairwise.nil, fun _ h => (by cases h), fun _ h => (by cases h), List.Pairwise.nil⟩
section
variable {B : Nat} {w0 w : World} {L : List (Nat × List Value × TypeId)} {G : List Gr}

theorem Mm.mg {G : List (Value × TypeId × List Value)} (h : Mm B w0 w L G) : Mg B w0 w L (G.map Gr.of) := by
  refine ⟨h.below, h.size, h.blk, h.dist, fun x hx => ?_, fun x hx y hy => ?_, ?_⟩
  · obtain ⟨y, hy, rfl⟩ := List.mem_map.1 hx; exact h.own y hy
  · obtain ⟨z, hz, rfl⟩ := List.mem_map.1 hx; exact h.sep z hz y hy
  · exact List.pairwise_map.2 h.gdist
theorem Mg.mm {G : List (Value × TypeId × List Value)} (h : Mg B w0 w L (G.map Gr.of)) : Mm B w0 w L G :=
  ⟨h.below, h.size, h.blk, h.dist, fun x hx => h.own _ (List.mem_map_of_mem hx), fun x hx y hy => h.sep _ (List.mem_map_of_mem hx) y hy, List.pairwise_map.1 h.gdist⟩
theorem Mg.ownlt (h : Mg B w0 w L G) {x : Gr} (hx : x ∈ G) {g : Nat} (hg : x.v.ownBlock = some g) : g < w.heap.size := (World.ownsRow.lt (h.own x hx) g hg).2
theorem Mg.call (h : Mg B w0 w L G) {w' : World} (hb : Below w.heap.size w w') : Mg B w0 w' L G :=
  ⟨h.below.trans (hb.mono h.size), Nat.le_trans h.size hb.size, fun x hx => ⟨(h.blk x hx).1, (h.blk x hx).2.keep hb⟩, h.dist, fun x hx => rowKeep (h.own x hx) hb, h.sep, h.gdist⟩
theorem Mg.drewN (h : Mg B w0 w L G) (n : Nat) : Mg B w0 (w.drewN n) L G := h.call ⟨rfl, rfl, rfl, Nat.le_refl _, fun _ _ => rfl⟩
theorem Mg.allocO (h : Mg B w0 w L G) (o : Obj) : Mg B w0 (w.alloc o) L G := h.call ((Below.refl _ _).alloc (Nat.le_refl _) _)
theorem Mg.alloc (h : Mg B w0 w L G) (cs : Array Value) (T : TypeId) : Mg B w0 (w.alloc (.cells cs T)) ((w.heap.size, cs.toList, T) :: L) G := by
  have h' := h.allocO (.cells cs T)
  refine ⟨h'.below, h'.size, fun x hx => ?_, List.pairwise_cons.2 ⟨fun y hy => ?_, h.dist⟩, h'.own, fun x hx y hy => ?_, h.gdist⟩
  · rcases List.mem_cons.1 hx with rfl | hx
    · exact ⟨h.size, Blk.new w cs T⟩
    · exact h'.blk x hx
  · have := (h.blk y hy).2.lt; simp only; omega
  · rcases List.mem_cons.1 hy with rfl | hy
    · intro e; have := h.ownlt hx e; omega
    · exact h.sep x hx y hy
theorem Mg.addNil (h : Mg B w0 w L G) (E : TypeId) (z : Nat) : Mg B w0 w L (⟨.slice none 0 0, E, z, 0, []⟩ :: G) := by
  refine ⟨h.below, h.size, h.blk, h.dist, fun x hx => ?_, fun x hx y hy => ?_, List.pairwise_cons.2 ⟨fun y hy b e => by simp [Value.ownBlock] at e, h.gdist⟩⟩
  · rcases List.mem_cons.1 hx with rfl | hx
    · exact World.ownsRow_nil _ _ _ _
    · exact h.own x hx
  · rcases List.mem_cons.1 hx with rfl | hx
    · simp [Value.ownBlock]
    · exact h.sep x hx y hy
/-- a new block that is the row of a slice of so many elements -/
theorem Mg.newOwn (h : Mg B w0 w L G) (cs : Array Value) (T z n : Nat) (hn : cs.toList.length = n * z) (hm : n ≤ 2000000) : Mg B w0 (w.alloc (.cells cs T)) L (⟨.slice (some ⟨w.heap.size, 0, none⟩) n n, T, z, n, cs.toList⟩ :: G) := by
  have h' := h.allocO (.cells cs T)
  refine ⟨h'.below, h'.size, h'.blk, h.dist, fun x hx => ?_, fun x hx y hy => ?_, List.pairwise_cons.2 ⟨fun y hy c e e' => ?_, h.gdist⟩⟩
  · rcases List.mem_cons.1 hx with rfl | hx
    · refine ⟨hn, .inr ⟨w.heap.size, n, cs, rfl, h.size, Blk.new w cs T, Nat.le_refl _, by simp [maxLen]; omega, by simpa using hn, ?_⟩⟩
      rw [← hn]; exact List.take_length
    · exact h'.own x hx
  · rcases List.mem_cons.1 hx with rfl | hx
    · intro e
      simp only [Value.ownBlock, Option.some.injEq] at e
      have := (h.blk y hy).2.lt; omega
    · exact h.sep x hx y hy
  · simp only [Value.ownBlock, Option.some.injEq] at e
    have := h.ownlt hy e'; omega
theorem Mg.sub (h : Mg B w0 w L G) {L' : List (Nat × List Value × TypeId)} (hs : L'.Sublist L) : Mg B w0 w L' G :=
  ⟨h.below, h.size, fun x hx => h.blk x (hs.subset hx), h.dist.sublist hs, h.own, fun x hx y hy => h.sep x hx y (hs.subset hy), h.gdist⟩
theorem Mg.subG (h : Mg B w0 w L G) {G' : List Gr} (hs : G'.Sublist G) : Mg B w0 w L G' :=
  ⟨h.below, h.size, h.blk, h.dist, fun x hx => h.own x (hs.subset hx), fun x hx y hy => h.sep x (hs.subset hx) y hy, h.gdist.sublist hs⟩
theorem Mg.permL (h : Mg B w0 w L G) {L' : List (Nat × List Value × TypeId)} (hp : L.Perm L') : Mg B w0 w L' G :=
  ⟨h.below, h.size, fun x hx => h.blk x (hp.mem_iff.2 hx), (hp.pairwise_iff (fun h => Ne.symm h)).1 h.dist, h.own, fun x hx y hy => h.sep x hx y (hp.mem_iff.2 hy), h.gdist⟩
theorem Mg.permG (h : Mg B w0 w L G) {G' : List Gr} (hp : G.Perm G') : Mg B w0 w L G' :=
  ⟨h.below, h.size, h.blk, h.dist, fun x hx => h.own x (hp.mem_iff.2 hx), fun x hx y hy => h.sep x (hp.mem_iff.2 hx) y hy, (hp.pairwise_iff (fun h b e e' => h b e' e)).1 h.gdist⟩
theorem Mg.since (h : Mg B w0 w L G) : Mg B w w L G := ⟨Below.refl _ _, h.size, h.blk, h.dist, h.own, h.sep, h.gdist⟩
theorem ownRow_less {B C E z n : Nat} {v : Value} {cs : List Value} (ho : w.ownsRow B E z v n cs) (hC : C ≤ B) : w.ownsRow C E z v n cs := by
  refine ⟨ho.1, ?_⟩
  rcases ho.2 with hn | ⟨g, cap, cur, hv, h1, rest⟩
  · exact .inl hn
  · exact .inr ⟨g, cap, cur, hv, Nat.le_trans hC h1, rest⟩
/-- a call that hands a slice of its own back -/
theorem Mg.callOwn (h : Mg B w0 w L G) {w' : World} (hb : Below w.heap.size w w') {v : Value} {E z n : Nat} {xs : List Value} (ho : w'.ownsRow w.heap.size E z v n xs) : Mg B w0 w' L (⟨v, E, z, n, xs⟩ :: G) := by
  have h' := h.call hb
  have hge : ∀ g, v.ownBlock = some g → w.heap.size ≤ g := fun g hg => (World.ownsRow.lt ho g hg).1
  refine ⟨h'.below, h'.size, h'.blk, h'.dist, fun x hx => ?_, fun x hx y hy => ?_, List.pairwise_cons.2 ⟨fun y hy b e e' => ?_, h.gdist⟩⟩
  · rcases List.mem_cons.1 hx with rfl | hx
    · exact ownRow_less ho h.size
    · exact h'.own x hx
  · rcases List.mem_cons.1 hx with rfl | hx
    · intro e; have := hge _ e; have := (h.blk y hy).2.lt; omega
    · exact h.sep x hx y hy
  · have := hge _ e; have := h.ownlt hy e'; omega
/-- a call that hands memory of its own back -/
theorem Mg.callAll (h : Mg B w0 w L G) {w' : World} {L' : List (Nat × List Value × TypeId)} {G' : List Gr} (h2 : Mg w.heap.size w w' L' G') : Mg B w0 w' (L' ++ L) (G' ++ G) := by
  have h' := h.call h2.below
  have hgl : ∀ x ∈ G', ∀ g, x.v.ownBlock = some g → w.heap.size ≤ g := fun x hx g hg => (World.ownsRow.lt (h2.own x hx) g hg).1
  refine ⟨h'.below, h'.size, fun x hx => ?_, ?_, fun x hx => ?_, fun x hx y hy => ?_, ?_⟩
  · rcases List.mem_append.1 hx with hx | hx
    · exact ⟨Nat.le_trans h.size (h2.blk x hx).1, (h2.blk x hx).2⟩
    · exact h'.blk x hx
  · rw [List.pairwise_append]
    exact ⟨h2.dist, h.dist, fun x hx y hy => by have := (h2.blk x hx).1; have := (h.blk y hy).2.lt; omega⟩
  · rcases List.mem_append.1 hx with hx | hx
    · exact ownRow_less (h2.own x hx) h.size
    · exact h'.own x hx
  · rcases List.mem_append.1 hx with hx | hx
    · rcases List.mem_append.1 hy with hy | hy
      · exact h2.sep x hx y hy
      · intro e; have := hgl x hx _ e; have := (h.blk y hy).2.lt; omega
    · rcases List.mem_append.1 hy with hy | hy
      · intro e; have := h.ownlt hx e; have := (h2.blk y hy).1; omega
      · exact h.sep x hx y hy
  · rw [List.pairwise_append]
    exact ⟨h2.gdist, h.gdist, fun x hx y hy b e e' => by have := hgl x hx b e; have := h.ownlt hy e'; omega⟩
theorem Mg.at (h : Mg B w0 w L G) (i : Nat) {x : Nat × List Value × TypeId} (hi : L[i]? = some x) : Blk w x.1 x.2.1 x.2.2 := (h.blk x (mem_of_get hi)).2
theorem Mg.row (h : Mg B w0 w L G) (i : Nat) {x : Gr} (hi : G[i]? = some x) : w.ownsRow B x.E x.z x.v x.n x.cs := h.own x (mem_of_get hi)
theorem Mg.mach (h : Mg B w0 w L G) (i : Nat) {b : Nat} {m : Mch} {T : TypeId} (hi : L[i]? = some (b, m.cells, T)) : MAt w b 0 m := (h.at i hi).all
/-- cells of the block number i are written -/
theorem Mg.setCells (h : Mg B w0 w L G) (i : Nat) {b : Nat} {cs : List Value} {T : TypeId} (hi : L[i]? = some (b, cs, T)) (o : Nat) (vs : List Value) : Mg B w0 (w.setCells b o vs) (L.set i (b, splice cs o vs, T)) G := by
  have hb := h.blk _ (mem_of_get hi)
  have hsym : ∀ x y : Nat × List Value × TypeId, x.1 ≠ y.1 → y.1 ≠ x.1 := fun _ _ h => Ne.symm h
  have hsz : (w.setCells b o vs).heap.size = w.heap.size := size_setCells b vs w o
  refine ⟨below_setCells hb.1 vs h.below o, by rw [hsz]; exact h.size, fun x hx => ?_, ?_, fun x hx => ?_, fun x hx y hy => ?_, h.gdist⟩
  · rcases mem_set_of hx with rfl | ⟨j, hj, hx⟩
    · exact ⟨hb.1, hb.2.setCells vs o⟩
    · have := h.blk x (mem_of_get hx)
      exact ⟨this.1, this.2.setsOther (pairwise_get hsym h.dist hx hi hj) vs o⟩
  · have e : (L.set i (b, splice cs o vs, T)).map (·.1) = L.map (·.1) := by
      rw [List.map_set]
      apply List.ext_getElem?
      intro k
      by_cases hk : k = i
      · subst hk
        have hlt : k < L.length := (List.getElem?_eq_some_iff.1 hi).1
        rw [List.getElem?_set_self (by simpa using hlt), List.getElem?_map, hi]; rfl
      · rw [List.getElem?_set_ne (Ne.symm hk)]
    have hd : (L.map (·.1)).Pairwise (· ≠ ·) := List.pairwise_map.2 h.dist
    rw [← e] at hd
    exact List.pairwise_map.1 hd
  · have ho := h.own x hx
    refine ⟨ho.1, ?_⟩
    rcases ho.2 with hn | ⟨g, cap, cur, hv, h1, h2, rest⟩
    · exact .inl hn
    · have hg : Blk w g cur.toList x.E := by show _ = _; simpa using h2
      have hne : g ≠ b := fun e => h.sep x hx _ (mem_of_get hi) (by rw [hv, e]; rfl)
      have := hg.setsOther hne vs o
      exact .inr ⟨g, cap, cur, hv, h1, by simpa [Blk] using this, rest⟩
  · rcases mem_set_of hy with rfl | ⟨j, hj, hy⟩
    · exact h.sep x hx (b, cs, T) (mem_of_get hi)
    · exact h.sep x hx y (mem_of_get hy)
theorem Mg.setCell (h : Mg B w0 w L G) (i : Nat) {b : Nat} {cs : List Value} {T : TypeId} (hi : L[i]? = some (b, cs, T)) (o : Nat) (v : Value) : Mg B w0 (w.setCell ⟨b, o, none⟩ v) (L.set i (b, cs.set o v, T)) G := h.setCells i hi o [v]
theorem Mg.setAll (h : Mg B w0 w L G) (i : Nat) {b : Nat} {cs : List Value} {T : TypeId} (hi : L[i]? = some (b, cs, T)) {vs : List Value} (hl : vs.length = cs.length) : Mg B w0 (w.setCells b 0 vs) (L.set i (b, vs, T)) G := by
  have := h.setCells i hi 0 vs
  rwa [splice_all hl] at this
/-- an append to the slice number i -/
theorem Mg.grow2 (h : Mg B w0 w L G) (i : Nat) {v v' : Value} {E z n n' : Nat} {xs ys : List Value} (hi : G[i]? = some ⟨v, E, z, n, xs⟩) {w' : World}
    (hown : w'.ownsRow B E z v' n' ys) (hgrow : w.grownBy w' v.ownBlock) (hlies : v'.ownBlock = v.ownBlock ∨ v'.ownBlock = some w.heap.size) :
    Mg B w0 w' L (G.set i ⟨v', E, z, n', ys⟩) := by
  have hv := mem_of_get hi
  have hsz := hgrow.size
  have hblock : ∀ k, k < w.heap.size → v.ownBlock ≠ some k → w'.heap[k]? = w.heap[k]? := fun k hk hne => hgrow.block k hk (Ne.symm hne)
  have hnb : ∀ k, k < w.heap.size → v.ownBlock ≠ some k → v'.ownBlock ≠ some k := fun k hk hne e => by
    rcases hlies with h' | h'
    · rw [h'] at e; exact hne e
    · rw [h'] at e; injection e with e; omega
  have hsym : ∀ x y : Gr, (∀ b, x.v.ownBlock = some b → y.v.ownBlock ≠ some b) → ∀ b, y.v.ownBlock = some b → x.v.ownBlock ≠ some b := fun x y h b e e' => h b e' e
  refine ⟨?_, by have := h.size; omega, fun x hx => ⟨(h.blk x hx).1, (hblock _ (h.blk x hx).2.lt (h.sep _ hv x hx)).trans (h.blk x hx).2⟩, h.dist, fun x hx => ?_, fun x hx y hy => ?_, ?_⟩
  · refine ⟨hgrow.os.trans h.below.os, hgrow.tape.trans h.below.tape, hgrow.output.trans h.below.output, by have := h.below.size; omega, fun k hk => ?_⟩
    have hkw : k < w.heap.size := by have := h.size; omega
    exact (hblock k hkw (fun e => by have := (World.ownsRow.lt (h.own _ hv) k e).1; omega)).trans (h.below.block k hk)
  · rcases mem_set_of hx with rfl | ⟨j, hj, hx⟩
    · exact hown
    · have ho := h.own x (mem_of_get hx)
      refine ⟨ho.1, ?_⟩
      rcases ho.2 with hn | ⟨g', cap', cur, hv', h1, h2, rest⟩
      · exact .inl hn
      · have hlt := h.ownlt (mem_of_get hx) (by rw [hv']; rfl : x.v.ownBlock = some g')
        exact .inr ⟨g', cap', cur, hv', h1, (hblock g' hlt (pairwise_get hsym h.gdist hx hi hj g' (by rw [hv']; rfl))).trans h2, rest⟩
  · rcases mem_set_of hx with rfl | ⟨j, hj, hx⟩
    · exact hnb _ (h.blk y hy).2.lt (h.sep _ hv y hy)
    · exact h.sep x (mem_of_get hx) y hy
  · rw [List.pairwise_iff_getElem]
    intro a b ha' hb' hab c e
    simp only [List.getElem_set] at e ⊢
    simp only [List.length_set] at ha' hb'
    by_cases e1 : i = a
    · subst e1
      simp only [if_true] at e
      rw [if_neg (by omega)]
      intro e2
      have hlt := h.ownlt (List.getElem_mem hb') e2
      exact hnb c hlt (pairwise_get hsym h.gdist (List.getElem?_eq_getElem hb') hi (by omega) c e2) e
    · rw [if_neg e1] at e
      by_cases e2 : i = b
      · subst e2
        simp only [if_true]
        have hlt := h.ownlt (List.getElem_mem ha') e
        exact hnb c hlt (pairwise_get hsym h.gdist (List.getElem?_eq_getElem ha') hi (by omega) c e)
      · rw [if_neg e2]
        exact (List.pairwise_iff_getElem.1 h.gdist) a b ha' hb' hab c e
/-- 'out = append(out, u)', u one element in a block just made, to the slice number i -/
theorem Mg.append {P : Program} {ops : Array Oper} {rest : List Oper} {o : Oper} {a : Act} {Q : Exit → Act → World → Prop} (hgd : o.guard = none) (s x : Operand) (t : TypeId)
    (ho : o.op = .call { callee := .builtin .append, args := #[s, x], argTypes := #[t, t] })
    (h : Mg B w0 w L G) (i : Nat) {v : Value} {E sz n : Nat} {xs : List Value} (hi : G[i]? = some ⟨v, E, sz, n, xs⟩) {i0 : TypeInfo} {z : Value} {bytes : Nat} (ht : P.underlying t = some (.slice E)) (hI : P.info? E = some i0) (hz : i0.zero = some z)
    (hsize : i0.size = sz) (hby : i0.bytes = bytes) (hzs : z.cells.size = sz) (hp : 0 < sz) {us : Array Value} (hul : us.toList.length = sz) (hs : a.eval s = v) (b : Nat) (hb : w.heap.size = b) (hx : a.eval x = .slice (some ⟨b, 0, none⟩) 1 1) (hu : ∀ u ∈ us.toList, u.oneCell' = true)
    (hlen : n ≤ 1000000) (hbytes : bytes ≤ 1000)
    (hk : ∀ g cap w', Mg B w0 w' L (G.set i ⟨.slice (some ⟨g, 0, none⟩) (n + 1) cap, E, sz, n + 1, xs ++ us.toList⟩) → wpList P ops Q rest (a.put o.dst (.slice (some ⟨g, 0, none⟩) (n + 1) cap)) w') :
    wpList P ops Q (o :: rest) a (w.alloc (.cells us E)) := by
  subst hb
  have h2 := h.allocO (.cells us E)
  refine wpList_append_lies _ hgd s x t ho B E i0 z sz bytes ht hI hz hsize hby hzs hp v n xs hs (World.ownsRow.alloc (h.row i hi) _) ⟨w.heap.size, 0, none⟩ 1 1 us.toList hx (by omega) ?_ hu (by omega) ?_ ?_ h2.size _ rfl ?_
  · intro j y hj
    have hb := Blk.new w us E
    have hadd : (⟨w.heap.size, 0, none⟩ : Addr).add j = ⟨w.heap.size, j, none⟩ := by unfold Addr.add; split <;> simp_all
    rw [hadd]
    exact hb.cell' hj
  · simp [maxLen]; omega
  · calc (n + 1) * bytes ≤ 1000001 * 1000 := Nat.mul_le_mul (by omega) hbytes
      _ ≤ _ := by omega
  · intro g cap w' hown hgrow hlies hlt
    exact hk g cap w' (h2.grow2 i hi hown hgrow (by
      rcases hlies with e | e
      · exact .inl e.symm
      · exact .inr (by rw [e]; rfl)))
/-- the same, the element's cells spelt as P -/
theorem Mg.appendA {P : Program} {ops : Array Oper} {rest : List Oper} {o : Oper} {a : Act} {Q : Exit → Act → World → Prop} (hgd : o.guard = none) (s x : Operand) (t : TypeId)
    (ho : o.op = .call { callee := .builtin .append, args := #[s, x], argTypes := #[t, t] })
    (h : Mg B w0 w L G) (i : Nat) {v : Value} {E sz n : Nat} {xs : List Value} (hi : G[i]? = some ⟨v, E, sz, n, xs⟩) {i0 : TypeInfo} {z : Value} {bytes : Nat} (ht : P.underlying t = some (.slice E)) (hI : P.info? E = some i0) (hz : i0.zero = some z)
    (hsize : i0.size = sz) (hby : i0.bytes = bytes) (hzs : z.cells.size = sz) (hp : 0 < sz) (ps : List Value) {us : Array Value} (hus : us.toList = ps) (hul : ps.length = sz) (hs : a.eval s = v) (b : Nat) (hb : w.heap.size = b) (hx : a.eval x = .slice (some ⟨b, 0, none⟩) 1 1) (hu : ∀ u ∈ ps, u.oneCell' = true)
    (hlen : n ≤ 1000000) (hbytes : bytes ≤ 1000)
    (hk : ∀ g cap w', Mg B w0 w' L (G.set i ⟨.slice (some ⟨g, 0, none⟩) (n + 1) cap, E, sz, n + 1, xs ++ ps⟩) → wpList P ops Q rest (a.put o.dst (.slice (some ⟨g, 0, none⟩) (n + 1) cap)) w') :
    wpList P ops Q (o :: rest) a (w.alloc (.cells us E)) := by
  subst hus
  exact Mg.append hgd s x t ho h i hi ht hI hz hsize hby hzs hp hul hs b hb hx hu hlen hbytes hk
/-- the cells of an element of a row -/
theorem Mg.elem {g cap E z n i : Nat} {xs : List Value} (h : Mg B w0 w L G) (hi : G[i]? = some ⟨.slice (some ⟨g, 0, none⟩) n cap, E, z, n, xs⟩) (j : Nat) (vs : List Value) (hv : ∀ k v, vs[k]? = some v → xs[j * z + k]? = some v) : w.rangeAt g (j * z) vs := fun k v hk => by
  have h1 := hv k v hk
  have h2 := World.ownsRow.cells (h.row i hi) (g := g) rfl _ _ h1
  rwa [show (⟨g, 0, none⟩ : Addr).add (j * z + k) = ⟨g, j * z + k, none⟩ by unfold Addr.add; split <;> simp_all] at h2
theorem Mg.form (h : Mg B w0 w L G) (i : Nat) {v : Value} {E z n : Nat} {xs : List Value} (hi : G[i]? = some ⟨v, E, z, n, xs⟩) (hn : 0 < n) : ∃ g c, v = .slice (some ⟨g, 0, none⟩) n c := by
  obtain ⟨g, c, e, -, -⟩ := World.ownsRow.form (h.row i hi) hn
  exact ⟨g, c, e⟩
theorem Mg.sl (h : Mg B w0 w L G) (i : Nat) {v : Value} {E z n : Nat} {xs : List Value} (hi : G[i]? = some ⟨v, E, z, n, xs⟩) : ∃ a c, v = .slice a n c := by
  have ho := h.row i hi
  simp only at ho
  rcases ho.2 with ⟨e, h0⟩ | ⟨g, cap, cur, e, -⟩
  · exact ⟨none, 0, by rw [h0]; exact e⟩
  · exact ⟨_, _, e⟩
end
end Go.Proofs.Yteagecoiijhflaa
