/- Tables: two slices of rows under one pointer, while they are built. -/
import Derived.Test.YtmacnofkpdikiaaR0
namespace Go.Proofs.Ytmacnofkpdikiaa
open Go.RowKit
set_option linter.unusedVariables false
set_option linter.unusedSimpArgs false

def i64s (xs : List Int) : List Value := xs.map (Value.int .i64)
theorem i64s_get {xs : List Int} {i : Nat} (h : i < xs.length) : (i64s xs)[i]? = some (.int .i64 (xs[i]?.getD 0)) := by
  simp [i64s, List.getElem?_eq_getElem h]
theorem i64s_length (xs : List Int) : (i64s xs).length = xs.length := by simp [i64s]

/-- v is a slice of the values xs, at the head of a block of E's that nobody has frozen -/
def RowV (w : World) (E : TypeId) (v : Value) (xs : List Value) : Prop :=
  ∃ g c cur, v = .slice (some ⟨g, 0, none⟩) xs.length c ∧ w.heap[g]? = some (.cells cur E (0, 0)) ∧ cur.toList.take xs.length = xs
theorem RowV.same {w w' : World} {E : TypeId} {v : Value} {xs : List Value} (h : RowV w E v xs) (hb : ∀ (g : Nat) (cur : Array Value), w.heap[g]? = some (.cells cur E (0, 0)) → w'.heap[g]? = some (.cells cur E (0, 0))) : RowV w' E v xs := by
  obtain ⟨g, c, cur, hv, hg, ht⟩ := h
  exact ⟨g, c, cur, hv, hb g cur hg, ht⟩
theorem RowV.keep {w w' : World} {E : TypeId} {v : Value} {xs : List Value} (h : RowV w E v xs) (hb : Below w.heap.size w w') : RowV w' E v xs :=
  h.same fun g cur hg => (hb.block g (Array.getElem?_eq_some_iff.1 hg).1).trans hg
theorem RowV.of_own {w : World} {base : Nat} {E : TypeId} {v : Value} {xs : List Value} (h : w.ownsRow base E 1 v xs.length xs) (h0 : 0 < xs.length) : RowV w E v xs := by
  rcases h.2 with ⟨_, e⟩ | ⟨g, cap, cur, rfl, hb, hg, h1, h2, h3, h4⟩
  · omega
  · exact ⟨g, cap, cur, rfl, hg, by simpa using h4⟩
theorem RowV.cell {w : World} {E : TypeId} {v : Value} {xs : List Value} (h : RowV w E v xs) : ∃ g c, v = .slice (some ⟨g, 0, none⟩) xs.length c ∧ ∀ i (hi : i < xs.length), w.cell? ⟨g, i, none⟩ = some xs[i] := by
  obtain ⟨g, c, cur, hv, hg, ht⟩ := h
  refine ⟨g, c, hv, fun i hi => ?_⟩
  rw [cell_of_row w g i _ E _ hg, ← Array.getElem?_toList, ← List.getElem?_take_of_lt hi, ht, List.getElem?_eq_getElem hi]

/-- an append to a row of another type leaves it -/
theorem RowV.grown {w w' : World} {E F : TypeId} {v o : Value} {xs ys : List Value} {base n : Nat} (h : RowV w E v xs) (hg : w.grownBy w' o.ownBlock) (ho : w.ownsRow base F 1 o n ys) (hne : E ≠ F) : RowV w' E v xs :=
  h.same fun g cur hc => by
    rw [hg.block g (Array.getElem?_eq_some_iff.1 hc).1 (fun e => ?_)]; exact hc
    rcases ho.2 with ⟨rfl, _⟩ | ⟨g', cap, cur', rfl, _, hg', _⟩
    · simp [Value.ownBlock] at e
    · simp [Value.ownBlock] at e
      subst e
      rw [hg'] at hc
      simp at hc
      exact hne hc.2.symm
theorem Blk.grown {w w' : World} {b T F : Nat} {cs ys : List Value} {o : Value} {base n : Nat} (h : Blk w b cs T) (hg : w.grownBy w' o.ownBlock) (ho : w.ownsRow base F 1 o n ys) (hne : T ≠ F) : Blk w' b cs T := by
  show _ = _
  rw [hg.block b h.lt (fun e => ?_)]; exact h
  rcases ho.2 with ⟨rfl, _⟩ | ⟨g', cap, cur', rfl, _, hg', _⟩
  · simp [Value.ownBlock] at e
  · simp [Value.ownBlock] at e
    subst e
    have := hg'.symm.trans h
    simp at this
    exact hne this.2.symm

/-- slices of rows -/
def RowsV (w : World) (E : TypeId) (rs : List Value) (N : List (List Value)) : Prop := rs.length = N.length ∧ ∀ (i : Nat) (v : Value) (xs : List Value), rs[i]? = some v → N[i]? = some xs → RowV w E v xs
theorem RowsV.same {w w' : World} {E : TypeId} {rs : List Value} {N : List (List Value)} (h : RowsV w E rs N) (hk : ∀ v xs, RowV w E v xs → RowV w' E v xs) : RowsV w' E rs N :=
  ⟨h.1, fun i v xs h1 h2 => hk v xs (h.2 i v xs h1 h2)⟩
theorem RowsV.add {w : World} {E : TypeId} {rs : List Value} {N : List (List Value)} {v : Value} {xs : List Value} (h : RowsV w E rs N) (hv : RowV w E v xs) : RowsV w E (rs ++ [v]) (N ++ [xs]) := by
  refine ⟨by simp [h.1], fun i u ys h1 h2 => ?_⟩
  by_cases hi : i < rs.length
  · rw [List.getElem?_append_left hi] at h1
    rw [List.getElem?_append_left (by rw [← h.1]; exact hi)] at h2
    exact h.2 i u ys h1 h2
  · rw [List.getElem?_append_right (by omega)] at h1
    rw [List.getElem?_append_right (by rw [← h.1]; omega), ← h.1] at h2
    by_cases e : i - rs.length = 0
    · rw [e] at h1 h2; simp at h1 h2; subst h1; subst h2; exact hv
    · rw [List.getElem?_eq_none (by simp; omega)] at h1; cases h1

/-- what table() has made so far: the pair (tN, tO) lies in block T; vN and vO are the slices of rows, behind the appends -/
structure TabM (B : Nat) (w : World) (T : Nat) (tN tO vN vO : Value) (rN rO : List Value) (N O : List (List Value)) (v5 : Value) (x5 : List Value) (v6 : Value) (x6 : List Value) : Prop where
  bs : B ≤ w.heap.size
  blk : Blk w T [tN, tO] 130
  oN : w.ownsRow B 39 1 vN rN.length rN
  oO : w.ownsRow B 39 1 vO rO.length rO
  ne : vN.ownBlock = none ∨ vN.ownBlock ≠ vO.ownBlock
  rowsN : RowsV w 2 rN N
  rowsO : RowsV w 2 rO O
  r5 : RowV w 2 v5 x5
  r6 : RowV w 2 v6 x6
section
variable {B : Nat} {w w' : World} {T : Nat} {tN tO vN vO : Value} {rN rO : List Value} {N O : List (List Value)} {v5 v6 : Value} {x5 x6 : List Value}
theorem TabM.keep (h : TabM B w T tN tO vN vO rN rO N O v5 x5 v6 x6) (hb : Below w.heap.size w w') : TabM B w' T tN tO vN vO rN rO N O v5 x5 v6 x6 := by
  have hg : w.grownBy w' none := ⟨hb.os, hb.tape, hb.output, hb.size, fun k hk _ => hb.block k hk⟩
  exact ⟨Nat.le_trans h.bs hb.size, h.blk.keep hb, h.oN.kept hg (by by_cases e : vN.ownBlock = none <;> simp [e]), h.oO.kept hg (by by_cases e : vO.ownBlock = none <;> simp [e]), h.ne,
    h.rowsN.same fun _ _ h => h.keep hb, h.rowsO.same fun _ _ h => h.keep hb, h.r5.keep hb, h.r6.keep hb⟩
theorem TabM.alloc (h : TabM B w T tN tO vN vO rN rO N O v5 x5 v6 x6) (o : Obj) : TabM B (w.alloc o) T tN tO vN vO rN rO N O v5 x5 v6 x6 :=
  h.keep ((Below.refl _ w).alloc (Nat.le_refl _) o)
theorem TabM.drew (h : TabM B w T tN tO vN vO rN rO N O v5 x5 v6 x6) : TabM B w.drew T tN tO vN vO rN rO N O v5 x5 v6 x6 := ⟨h.bs, h.blk, h.oN, h.oO, h.ne, h.rowsN.same fun _ _ h => h.same fun _ _ h => h, h.rowsO.same fun _ _ h => h.same fun _ _ h => h, h.r5.same fun _ _ h => h, h.r6.same fun _ _ h => h⟩
theorem TabM.appN (h : TabM B w T tN tO vN vO rN rO N O v5 x5 v6 x6) {v : Value} {g cap : Nat} (hv : v = .slice (some ⟨g, 0, none⟩) (rN.length + 1) cap)
    (ho : w'.ownsRow B 39 1 v (rN.length + 1) (rN ++ [v5])) (hg : w.grownBy w' vN.ownBlock) (hl : vN.ownBlock = some g ∨ g = w.heap.size) :
    TabM B w' T tN tO v vO (rN ++ [v5]) rO (N ++ [x5]) O v5 x5 v6 x6 := by
  have r5' := h.r5.grown hg h.oN (by decide)
  refine ⟨Nat.le_trans h.bs hg.size, h.blk.grown hg h.oN (by decide), by simpa using ho, h.oO.kept hg ?_, ?_, (h.rowsN.same fun _ _ h' => h'.grown hg h.oN (by decide)).add r5', h.rowsO.same fun _ _ h' => h'.grown hg h.oN (by decide), r5', h.r6.grown hg h.oN (by decide)⟩
  · rcases h.ne with e | e
    · rw [e]; by_cases e' : vO.ownBlock = none <;> simp [e']
    · exact .inr (Ne.symm e)
  · right
    subst hv
    intro e
    simp only [Value.ownBlock] at e
    rcases hl with hl | hl
    · rcases h.ne with e' | e'
      · rw [e'] at hl; cases hl
      · rw [hl] at e'; exact e' e
    · have := (h.oO.lt g e.symm).2; omega
theorem TabM.appO (h : TabM B w T tN tO vN vO rN rO N O v5 x5 v6 x6) {v : Value} {g cap : Nat} (hv : v = .slice (some ⟨g, 0, none⟩) (rO.length + 1) cap)
    (ho : w'.ownsRow B 39 1 v (rO.length + 1) (rO ++ [v6])) (hg : w.grownBy w' vO.ownBlock) (hl : vO.ownBlock = some g ∨ g = w.heap.size) :
    TabM B w' T tN tO vN v rN (rO ++ [v6]) N (O ++ [x6]) v5 x5 v6 x6 := by
  have r6' := h.r6.grown hg h.oO (by decide)
  refine ⟨Nat.le_trans h.bs hg.size, h.blk.grown hg h.oO (by decide), h.oN.kept hg h.ne, by simpa using ho, ?_, h.rowsN.same fun _ _ h' => h'.grown hg h.oO (by decide), (h.rowsO.same fun _ _ h' => h'.grown hg h.oO (by decide)).add r6', h.r5.grown hg h.oO (by decide), r6'⟩
  subst hv
  by_cases e0 : vN.ownBlock = none
  · exact .inl e0
  · right
    intro e
    simp only [Value.ownBlock] at e
    rcases hl with hl | hl
    · rcases h.ne with e' | e'
      · exact e0 e'
      · rw [hl] at e'; exact e' e
    · have := (h.oN.lt g e).2; omega
/-- the stores at the end -/
theorem TabM.store (h : TabM B w T tN tO vN vO rN rO N O v5 x5 v6 x6) : TabM B ((w.setCell ⟨T, 0, none⟩ vN).setCell ⟨T, 1, none⟩ vO) T vN vO vN vO rN rO N O v5 x5 v6 x6 := by
  have hs : ∀ (w : World) (i : Nat) (u : Value) (cs : List Value), Blk w T cs 130 → ∀ (E : TypeId), E ≠ 130 → ∀ (g : Nat) (cur : Array Value), w.heap[g]? = some (.cells cur E (0, 0)) → (w.setCell ⟨T, i, none⟩ u).heap[g]? = some (.cells cur E (0, 0)) := by
    intro w i u cs hb E hE g cur hg
    rw [heap_setCell_other w ⟨T, i, none⟩ g u (fun e => ?_)]; exact hg
    simp only at e
    subst e
    have := hg.symm.trans hb
    simp at this
    exact hE this.2
  have h1 := h.blk.setCell 0 vN
  have h2 := h1.setCell 1 vO
  have go : ∀ (E : TypeId), E ≠ 130 → ∀ (g : Nat) (cur : Array Value), w.heap[g]? = some (.cells cur E (0, 0)) → ((w.setCell ⟨T, 0, none⟩ vN).setCell ⟨T, 1, none⟩ vO).heap[g]? = some (.cells cur E (0, 0)) :=
    fun E hE g cur hg => hs _ 1 vO _ h1 E hE g cur (hs _ 0 vN _ h.blk E hE g cur hg)
  have own : ∀ {v : Value} {n : Nat} {xs : List Value}, w.ownsRow B 39 1 v n xs → ((w.setCell ⟨T, 0, none⟩ vN).setCell ⟨T, 1, none⟩ vO).ownsRow B 39 1 v n xs := fun ho => by
    refine ⟨ho.1, ?_⟩
    rcases ho.2 with hn | ⟨g, cap, cur, hv, hb, hg, rest⟩
    · exact .inl hn
    · exact .inr ⟨g, cap, cur, hv, hb, go _ (by decide) g cur hg, rest⟩
  refine ⟨?_, ?_, own h.oN, own h.oO, h.ne, h.rowsN.same fun _ _ h' => h'.same (go _ (by decide)), h.rowsO.same fun _ _ h' => h'.same (go _ (by decide)), h.r5.same (go _ (by decide)), h.r6.same (go _ (by decide))⟩
  · have := h.bs; simpa [World.setCell] using this
  · simpa using h2
theorem TabM.of_below {v5' v6' : Value} {x5' x6' : List Value} (h : TabM B w T tN tO vN vO rN rO N O v5 x5 v6 x6) (hb : Below w.heap.size w w') (h5 : RowV w' 2 v5' x5') (h6 : RowV w' 2 v6' x6') : TabM B w' T tN tO vN vO rN rO N O v5' x5' v6' x6' :=
  let k := h.keep hb
  ⟨k.bs, k.blk, k.oN, k.oO, k.ne, k.rowsN, k.rowsO, h5, h6⟩
end
/-- the block of an element to be appended, apart from both slices -/
def TmpB (w : World) (t : Nat) (v vN vO : Value) : Prop := Blk w t [v] 39 ∧ vN.ownBlock ≠ some t ∧ vO.ownBlock ≠ some t
section
variable {B : Nat} {w w' : World} {T t g cap n : Nat} {tN tO vN vO v u : Value} {rN rO : List Value} {N O : List (List Value)} {v5 v6 : Value} {x5 x6 : List Value}
theorem TabM.tmp (h : TabM B w T tN tO vN vO rN rO N O v5 x5 v6 x6) (v : Value) : TmpB (w.alloc (.cells #[v] 39)) w.heap.size v vN vO :=
  ⟨Blk.new w #[v] _, fun e => by have := (h.oN.lt _ e).2; omega, fun e => by have := (h.oO.lt _ e).2; omega⟩
theorem TmpB.alloc (h : TmpB w t v vN vO) (o : Obj) : TmpB (w.alloc o) t v vN vO := ⟨h.1.alloc o, h.2⟩
theorem TmpB.appN (h : TmpB w t v vN vO) (hg : w.grownBy w' vN.ownBlock) (hl : vN.ownBlock = some g ∨ g = w.heap.size) : TmpB w' t v (.slice (some ⟨g, 0, none⟩) n cap) vO := by
  refine ⟨(hg.block t h.1.lt (fun e => h.2.1 e.symm)).trans h.1, fun e => ?_, h.2.2⟩
  simp only [Value.ownBlock] at e
  rcases hl with hl | hl
  · exact h.2.1 (hl.trans e)
  · have := h.1.lt; simp at e; omega
theorem TmpB.appO (h : TmpB w t v vN vO) (hg : w.grownBy w' vO.ownBlock) (hl : vO.ownBlock = some g ∨ g = w.heap.size) : TmpB w' t v vN (.slice (some ⟨g, 0, none⟩) n cap) := by
  refine ⟨(hg.block t h.1.lt (fun e => h.2.2 e.symm)).trans h.1, h.2.1, fun e => ?_⟩
  simp only [Value.ownBlock] at e
  rcases hl with hl | hl
  · exact h.2.2 (hl.trans e)
  · have := h.1.lt; simp at e; omega
theorem TmpB.news (h : TmpB w t v vN vO) : ∀ j u, [v][j]? = some u → w.cell? ((⟨t, 0, none⟩ : Addr).add j) = some u := by
  intro j u hj
  match j, hj with
  | 0, hj => simp at hj; subst hj; simpa [Addr.add] using h.1.cell' (i := 0) rfl
theorem TabM.belN (h : TabM B w T tN tO vN vO rN rO N O v5 x5 v6 x6) {w0 : World} (hb : Below B w0 w) (hg : w.grownBy w' vN.ownBlock) : Below B w0 w' := hb.grown hg h.bs fun k hk => (h.oN.lt k hk).1
theorem TabM.belO (h : TabM B w T tN tO vN vO rN rO N O v5 x5 v6 x6) {w0 : World} (hb : Below B w0 w) (hg : w.grownBy w' vO.ownBlock) : Below B w0 w' := hb.grown hg h.bs fun k hk => (h.oO.lt k hk).1
end
/-- a table, whole: two slices of rows under one pointer -/
def Tab (B : Nat) (w : World) (T : Nat) (N O : List (List Value)) : Prop := ∃ vN vO rN rO, B ≤ w.heap.size ∧ Blk w T [vN, vO] 130 ∧ w.ownsRow B 39 1 vN rN.length rN ∧ w.ownsRow B 39 1 vO rO.length rO ∧
  (vN.ownBlock = none ∨ vN.ownBlock ≠ vO.ownBlock) ∧ RowsV w 2 rN N ∧ RowsV w 2 rO O
theorem Tab.keep {B : Nat} {w w' : World} {T : Nat} {N O : List (List Value)} (h : Tab B w T N O) (hb : Below w.heap.size w w') : Tab B w' T N O := by
  obtain ⟨vN, vO, rN, rO, h1, h2, h3, h4, h5, h6, h7⟩ := h
  have hg : w.grownBy w' none := ⟨hb.os, hb.tape, hb.output, hb.size, fun k hk _ => hb.block k hk⟩
  exact ⟨vN, vO, rN, rO, Nat.le_trans h1 hb.size, h2.keep hb, h3.kept hg (by by_cases e : vN.ownBlock = none <;> simp [e]), h4.kept hg (by by_cases e : vO.ownBlock = none <;> simp [e]), h5,
    h6.same fun _ _ h => h.keep hb, h7.same fun _ _ h => h.keep hb⟩
theorem TabM.tab {B : Nat} {w : World} {T : Nat} {vN vO : Value} {rN rO : List Value} {N O : List (List Value)} {v5 v6 : Value} {x5 x6 : List Value} (h : TabM B w T vN vO vN vO rN rO N O v5 x5 v6 x6) : Tab B w T N O :=
  ⟨vN, vO, rN, rO, h.bs, h.blk, h.oN, h.oO, h.ne, h.rowsN, h.rowsO⟩
theorem Tab.more {B : Nat} {w w' : World} {T : Nat} {N O : List (List Value)} (h : Tab B w T N O) (hb : Below w.heap.size w w') {v5 v6 : Value} {x5 x6 : List Value} (h5 : RowV w' 2 v5 x5) (h6 : RowV w' 2 v6 x6) :
    ∃ vN vO rN rO, TabM B w' T vN vO vN vO rN rO N O v5 x5 v6 x6 := by
  obtain ⟨vN, vO, rN, rO, h1, h2, h3, h4, h5', h6', h7⟩ := h.keep hb
  exact ⟨vN, vO, rN, rO, h1, h2, h3, h4, h5', h6', h7, h5, h6⟩
theorem Tab.start {B : Nat} {w : World} {T : Nat} (h : Blk w T [.slice none 0 0, .slice none 0 0] 130) (hB : B ≤ w.heap.size) : Tab B w T [] [] :=
  ⟨_, _, [], [], hB, h, World.ownsRow_nil _ _ _ _, World.ownsRow_nil _ _ _ _, .inl rfl, ⟨rfl, fun i v xs h => by simp at h⟩, ⟨rfl, fun i v xs h => by simp at h⟩⟩
end Go.Proofs.Ytmacnofkpdikiaa
