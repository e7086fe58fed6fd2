import Derived.Test.YteagecoiijhflaaZLReturnOf02
import Derived.Test.YteagecoiijhflaaZLReturnOf03
import Derived.Laws.OwnMore
import Derived.Test.YteagecoiijhflaaZLReturnOf01
/- Tables: two slices of rows under one pointer, while they are built. -/
namespace Go.Proofs.Yteagecoiijhflaa
open Go.RowKit
set_option linter.unusedVariables false
set_option linter.unusedSimpArgs false

def i64s (xs : List Int) : List Value := xs.map (Value.int .i64)
theorem i64s_get {xs : List Int} {i : Nat} (h : i < xs.length) : (i64s xs)[i]? = some (.int .i64 (xs[i]?.getD 0)) := by
  simp [i64s, List.getElem?_eq_getElem h]
theorem i64s_length (xs : List Int) : (i64s xs).length = xs.length := by simp [i64s]

/-- v is a slice of the values xs, at the head of a block of E's that nobody has frozen -/
def RowV (w : World) (E : TypeId) (v : Value) (xs : List Value) : Prop :=
  ∃ g c cur, v = .slice (some ⟨g, 0, none⟩) xs.length c ∧ w.heap[g]? = some (.cells cur E (0, 0)) ∧ cur.toList.take xs.length = xs
theorem RowV.same {w w' : World} {E : TypeId} {v : Value} {xs : List Value} (h : RowV w E v xs) (hb : ∀ (g : Nat) (cur : Array Value), w.heap[g]? = some (.cells cur E (0, 0)) → w'.heap[g]? = some (.cells cur E (0, 0))) : RowV w' E v xs := by
  obtain ⟨g, c, cur, hv, hg, ht⟩ := h
  exact ⟨g, c, cur, hv, hb g cur hg, ht⟩
theorem RowV.keep {w w' : World} {E : TypeId} {v : Value} {xs : List Value} (h : RowV w E v xs) (hb : Below w.heap.size w w') : RowV w' E v xs :=
  h.same fun g cur hg => (hb.block g (Array.getElem?_eq_some_iff.1 hg).1).trans hg
theorem RowV.of_own {w : World} {base : Nat} {E : TypeId} {v : Value} {xs : List Value} (h : w.ownsRow base E 1 v xs.length xs) (h0 : 0 < xs.length) : RowV w E v xs := by
  rcases h.2 with ⟨_, e⟩ | ⟨g, cap, cur, rfl, hb, hg, h1, h2, h3, h4⟩
  · omega
  · exact ⟨g, cap, cur, rfl, hg, by simpa using h4⟩
theorem RowV.cell {w : World} {E : TypeId} {v : Value} {xs : List Value} (h : RowV w E v xs) : ∃ g c, v = .slice (some ⟨g, 0, none⟩) xs.length c ∧ ∀ i (hi : i < xs.length), w.cell? ⟨g, i, none⟩ = some xs[i] := by
  obtain ⟨g, c, cur, hv, hg, ht⟩ := h
  refine ⟨g, c, hv, fun i hi => ?_⟩
  rw [cell_of_row w g i _ E _ hg, ← Array.getElem?_toList, ← List.getElem?_take_of_lt hi, ht, List.getElem?_eq_getElem hi]

/-- an append to a row of another type leaves it -/
theorem RowV.grown {w w' : World} {E F : TypeId} {v o : Value} {xs ys : List Value} {base n : Nat} (h : RowV w E v xs) (hg : w.grownBy w' o.ownBlock) (ho : w.ownsRow base F 1 o n ys) (hne : E ≠ F) : RowV w' E v xs :=
  h.same fun g cur hc => by
    rw [hg.block g (Array.getElem?_eq_some_iff.1 hc).1 (fun e => ?_)]; exact hc
    rcases ho.2 with ⟨rfl, _⟩ | ⟨g', cap, cur', rfl, _, hg', _⟩
    · simp [Value.ownBlock] at e
    · simp [Value.ownBlock] at e
      subst e
      rw [hg'] at hc
      simp at hc
      exact hne hc.2.symm
theorem Blk.grown {w w' : World} {b T F : Nat} {cs ys : List Value} {o : Value} {base n : Nat} (h : Blk w b cs T) (hg : w.grownBy w' o.ownBlock) (ho : w.ownsRow base F 1 o n ys) (hne : T ≠ F) : Blk w' b cs T := by
  show _ = _
  rw [hg.block b h.lt (fun e => ?_)]; exact h
  rcases ho.2 with ⟨rfl, _⟩ | ⟨g', cap, cur', rfl, _, hg', _⟩
  · simp [Value.ownBlock] at e
  · simp [Value.ownBlock] at e
    subst e
    have := hg'.symm.trans h
    simp at this
    exact hne this.2.symm

/-- slices of rows -/
def RowsV (w : World) (E : TypeId) (rs : List Value) (N : List (List Value)) : Prop := rs.length = N.length ∧ ∀ (i : Nat) (v : Value) (xs : List Value), rs[i]? = some v → N[i]? = some xs → RowV w E v xs
theorem RowsV.same {w w' : World} {E : TypeId} {rs : List Value} {N : List (List Value)} (h : RowsV w E rs N) (hk : ∀ v xs, RowV w E v xs → RowV w' E v xs) : RowsV w' E rs N :=
  ⟨h.1, fun i v xs h1 h2 => hk v xs (h.2 i v xs h1 h2)⟩
theorem RowsV.add {w : World} {E : TypeId} {rs : List Value} {N : List (List Value)} {v : Value} {xs : List Value} (h : RowsV w E rs N) (hv : RowV w E v xs) : RowsV w E (rs ++ [v]) (N ++ [xs]) := by
  refine ⟨by simp [h.1], fun i u ys h1 h2 => ?_⟩
  by_cases hi : i < rs.length
  · rw [List.getElem?_append_left hi] at h1
    rw [List.getElem?_append_left (by rw [← h.1]; exact hi)] at h2
    exact h.2 i u ys h1 h2
  · rw [List.getElem?_append_right (by omega)] at h1
    rw [List.getElem?_append_right (by rw [← h.1]; omega), ← h.1] at h2
    by_cases e : i - rs.length = 0
    · rw [e] at h1 h2; simp at h1 h2; subst h1; subst h2; exact hv
    · rw [List.getElem?_eq_none (by simp; omega)] at h1; cases h1

/-- what table() has made so far: the pair (tN, tO) lies in block T; vN and vO are the slices of rows, behind the appends -/
structure TabM (B : Nat) (w : World) (T : Nat) (tN tO vN vO : Value) (rN rO : List Value) (N O : List (List Value)) (v5 : Value) (x5 : List Value) (v6 : Value) (x6 : List Value) : Prop where
  bs : B ≤ w.heap.size
  blk : Blk w T [tN, tO] 168
  oN : w.ownsRow B 26 1 vN rN.length rN
  oO : w.ownsRow B 26 1 vO rO.length rO
  ne : vN.ownBlock = none ∨ vN.ownBlock ≠ vO.ownBlock
  rowsN : RowsV w 2 rN N
  rowsO : RowsV w 2 rO O
  r5 : RowV w 2 v5 x5
  r6 : RowV w 2 v6 x6
section
variable {B : Nat} {w w' : World} {T : Nat} {tN tO vN vO : Value} {rN rO : List Value} {N O : List (List Value)} {v5 v6 : Value} {x5 x6 : List Value}
theorem TabM.keep (h : TabM B w T tN tO vN vO rN rO N O v5 x5 v6 x6) (hb : Below w.heap.size w w') : TabM B w' T tN tO vN vO rN rO N O v5 x5 v6 x6 := by
  have hg : w.grownBy w' none := ⟨hb.os, hb.tape, hb.output, hb.size, fun k hk _ => hb.block k hk⟩
  exact ⟨Nat.le_trans h.bs hb.size, h.blk.keep hb, h.oN.kept hg (by by_cases e : vN.ownBlock = none <;> simp [e]), h.oO.kept hg (by by_cases e : vO.ownBlock = none <;> simp [e]), h.ne,
    h.rowsN.same fun _ _ h => h.keep hb, h.rowsO.same fun _ _ h => h.keep hb, h.r5.keep hb, h.r6.keep hb⟩
theorem TabM.alloc (h : TabM B w T tN tO vN vO rN rO N O v5 x5 v6 x6) (o : Obj) : TabM B (w.alloc o) T tN tO vN vO rN rO N O v5 x5 v6 x6 :=
  h.keep ((Below.refl _ w).alloc (Nat.le_refl _) o)
theorem TabM.drew (h : TabM B w T tN tO vN vO rN rO N O v5 x5 v6 x6) : TabM B w.drew T tN tO vN vO rN rO N O v5 x5 v6 x6 := ⟨h.bs, h.blk, h.oN, h.oO, h.ne, h.rowsN.same fun _ _ h => h.same fun _ _ h => h, h.rowsO.same fun _ _ h => h.same fun _ _ h => h, h.r5.same fun _ _ h => h, h.r6.same fun _ _ h => h⟩
theorem TabM.appN (h : TabM B w T tN tO vN vO rN rO N O v5 x5 v6 x6) {v : Value} {g cap : Nat} (hv : v = .slice (some ⟨g, 0, none⟩) (rN.length + 1) cap)
    (ho : w'.ownsRow B 26 1 v (rN.length + 1) (rN ++ [v5])) (hg : w.grownBy w' vN.ownBlock) (hl : vN.ownBlock = some g ∨ g = w.heap.size) :
    TabM B w' T tN tO v vO (rN ++ [v5]) rO (N ++ [x5]) O v5 x5 v6 x6 := by
  have r5' := h.r5.grown hg h.oN (by decide)
  refine ⟨Nat.le_trans h.bs hg.size, h.blk.grown hg h.oN (by decide), by simpa using ho, h.oO.kept hg ?_, ?_, (h.rowsN.same fun _ _ h' => h'.grown hg h.oN (by decide)).add r5', h.rowsO.same fun _ _ h' => h'.grown hg h.oN (by decide), r5', h.r6.grown hg h.oN (by decide)⟩
  · rcases h.ne with e | e
    · rw [e]; by_cases e' : vO.ownBlock = none <;> simp [e']
    · exact .inr (Ne.symm e)
  · right
    subst hv
    intro e
    simp only [Value.ownBlock] at e
    rcases hl with hl | hl
    · rcases h.ne with e' | e'
      · rw [e'] at hl; cases hl
      · rw [hl] at e'; exact e' e
    · have := (h.oO.lt g e.symm).2; omega
theorem TabM.appO (h : TabM B w T tN tO vN vO rN rO N O v5 x5 v6 x6) {v : Value} {g cap : Nat} (hv : v = .slice (some ⟨g, 0, none⟩) (rO.length + 1) cap)
    (ho : w'.ownsRow B 26 1 v (rO.length + 1) (rO ++ [v6])) (hg : w.grownBy w' vO.ownBlock) (hl : vO.ownBlock = some g ∨ g = w.heap.size) :
    TabM B w' T tN tO vN v rN (rO ++ [v6]) N (O ++ [x6]) v5 x5 v6 x6 := by
  have r6' := h.r6.grown hg h.oO (by decide)
  refine ⟨Nat.le_trans h.bs hg.size, h.blk.grown hg h.oO (by decide), h.oN.kept hg h.ne, by simpa using ho, ?_, h.rowsN.same fun _ _ h' => h'.grown hg h.oO (by decide), (h.rowsO.same fun _ _ h' => h'.grown hg h.oO (by decide)).add r6', h.r5.grown hg h.oO (by decide), r6'⟩
  subst hv
  by_cases e0 : vN.ownBlock = none
  · exact .inl e0
  · right
    intro e
    simp only [Value.ownBlock] at e
    rcases hl with hl | hl
    · rcases h.ne with e' | e'
      · exact e0 e'
      · rw [hl] at e'; exact e' e
    · have := (h.oN.lt g e).2; omega
/-- the stores at the end -/
theorem TabM.store (h : TabM B w T tN tO vN vO rN rO N O v5 x5 v6 x6) : TabM B ((w.setCell ⟨T, 0, none⟩ vN).setCell ⟨T, 1, none⟩ vO) T vN vO vN vO rN rO N O v5 x5 v6 x6 := by
  have hs : ∀ (w : World) (i : Nat) (u : Value) (cs : List Value), Blk w T cs 168 → ∀ (E : TypeId), E ≠ 168 → ∀ (g : Nat) (cur : Array Value), w.heap[g]? = some (.cells cur E (0, 0)) → (w.setCell ⟨T, i, none⟩ u).heap[g]? = some (.cells cur E (0, 0)) := by
    intro w i u cs hb E hE g cur hg
    rw [heap_setCell_other w ⟨T, i, none⟩ g u (fun e => ?_)]; exact hg
    simp only at e
    subst e
    have := hg.symm.trans hb
    simp at this
    exact hE this.2
  have h1 := h.blk.setCell 0 vN
  have h2 := h1.setCell 1 vO
  have go : ∀ (E : TypeId), E ≠ 168 → ∀ (g : Nat) (cur : Array Value), w.heap[g]? = some (.cells cur E (0, 0)) → ((w.setCell ⟨T, 0, none⟩ vN).setCell ⟨T, 1, none⟩ vO).heap[g]? = some (.cells cur E (0, 0)) :=
    fun E hE g cur hg => hs _ 1 vO _ h1 E hE g cur (hs _ 0 vN _ h.blk E hE g cur hg)
  have own : ∀ {v : Value} {n : Nat} {xs : List Value}, w.ownsRow B 26 1 v n xs → ((w.setCell ⟨T, 0, none⟩ vN).setCell ⟨T, 1, none⟩ vO).ownsRow B 26 1 v n xs := fun ho => by
    refine ⟨ho.1, ?_⟩
    rcases ho.2 with hn | ⟨g, cap, cur, hv, hb, hg, rest⟩
    · exact .inl hn
    · exact .inr ⟨g, cap, cur, hv, hb, go _ (by decide) g cur hg, rest⟩
  refine ⟨?_, ?_, own h.oN, own h.oO, h.ne, h.rowsN.same fun _ _ h' => h'.same (go _ (by decide)), h.rowsO.same fun _ _ h' => h'.same (go _ (by decide)), h.r5.same (go _ (by decide)), h.r6.same (go _ (by decide))⟩
  · have := h.bs; simpa [World.setCell] using this
  · simpa using h2
theorem TabM.of_below {v5' v6' : Value} {x5' x6' : List Value} (h : TabM B w T tN tO vN vO rN rO N O v5 x5 v6 x6) (hb : Below w.heap.size w w') (h5 : RowV w' 2 v5' x5') (h6 : RowV w' 2 v6' x6') : TabM B w' T tN tO vN vO rN rO N O v5' x5' v6' x6' :=
  let k := h.keep hb
  ⟨k.bs, k.blk, k.oN, k.oO, k.ne, k.rowsN, k.rowsO, h5, h6⟩
end
/-- the block of an element to be appended, apart from both slices -/
def TmpB (w : World) (t : Nat) (v vN vO : Value) : Prop := Blk w t [v] 26 ∧ vN.ownBlock ≠ some t ∧ vO.ownBlock ≠ some t
section
variable {B : Nat} {w w' : World} {T t g cap n : Nat} {tN tO vN vO v u : Value} {rN rO : List Value} {N O : List (List Value)} {v5 v6 : Value} {x5 x6 : List Value}
theorem TabM.tmp (h : TabM B w T tN tO vN vO rN rO N O v5 x5 v6 x6) (v : Value) : TmpB (w.alloc (.cells #[v] 26)) w.heap.size v vN vO :=
  ⟨Blk.new w #[v] _, fun e => by have := (h.oN.lt _ e).2; omega, fun e => by have := (h.oO.lt _ e).2; omega⟩
theorem TmpB.alloc (h : TmpB w t v vN vO) (o : Obj) : TmpB (w.alloc o) t v vN vO := ⟨h.1.alloc o, h.2⟩
theorem TmpB.appN (h : TmpB w t v vN vO) (hg : w.grownBy w' vN.ownBlock) (hl : vN.ownBlock = some g ∨ g = w.heap.size) : TmpB w' t v (.slice (some ⟨g, 0, none⟩) n cap) vO := by
  refine ⟨(hg.block t h.1.lt (fun e => h.2.1 e.symm)).trans h.1, fun e => ?_, h.2.2⟩
  simp only [Value.ownBlock] at e
  rcases hl with hl | hl
  · exact h.2.1 (hl.trans e)
  · have := h.1.lt; simp at e; omega
theorem TmpB.appO (h : TmpB w t v vN vO) (hg : w.grownBy w' vO.ownBlock) (hl : vO.ownBlock = some g ∨ g = w.heap.size) : TmpB w' t v vN (.slice (some ⟨g, 0, none⟩) n cap) := by
  refine ⟨(hg.block t h.1.lt (fun e => h.2.2 e.symm)).trans h.1, h.2.1, fun e => ?_⟩
  simp only [Value.ownBlock] at e
  rcases hl with hl | hl
  · exact h.2.2 (hl.trans e)
  · have := h.1.lt; simp at e; omega
theorem TmpB.news (h : TmpB w t v vN vO) : ∀ j u, [v][j]? = some u → w.cell? ((⟨t, 0, none⟩ : Addr).add j) = some u := by
  intro j u hj
  match j, hj with
  | 0, hj => simp at hj; subst hj; simpa [Addr.add] using h.1.cell' (i := 0) rfl
theorem TabM.belN (h : TabM B w T tN tO vN vO rN rO N O v5 x5 v6 x6) {w0 : World} (hb : Below B w0 w) (hg : w.grownBy w' vN.ownBlock) : Below B w0 w' := hb.grown hg h.bs fun k hk => (h.oN.lt k hk).1
theorem TabM.belO (h : TabM B w T tN tO vN vO rN rO N O v5 x5 v6 x6) {w0 : World} (hb : Below B w0 w) (hg : w.grownBy w' vO.ownBlock) : Below B w0 w' := hb.grown hg h.bs fun k hk => (h.oO.lt k hk).1
end
/-- a table, whole: two slices of rows under one pointer -/
def Tab (B : Nat) (w : World) (T : Nat) (N O : List (List Value)) : Prop := ∃ vN vO rN rO, B ≤ w.heap.size ∧ Blk w T [vN, vO] 168 ∧ w.ownsRow B 26 1 vN rN.length rN ∧ w.ownsRow B 26 1 vO rO.length rO ∧
  (vN.ownBlock = none ∨ vN.ownBlock ≠ vO.ownBlock) ∧ RowsV w 2 rN N ∧ RowsV w 2 rO O
theorem Tab.keep {B : Nat} {w w' : World} {T : Nat} {N O : List (List Value)} (h : Tab B w T N O) (hb : Below w.heap.size w w') : Tab B w' T N O := by
  obtain ⟨vN, vO, rN, rO, h1, h2, h3, h4, h5, h6, h7⟩ := h
  have hg : w.grownBy w' none := ⟨hb.os, hb.tape, hb.output, hb.size, fun k hk _ => hb.block k hk⟩
  exact ⟨vN, vO, rN, rO, Nat.le_trans h1 hb.size, h2.keep hb, h3.kept hg (by by_cases e : vN.ownBlock = none <;> simp [e]), h4.kept hg (by by_cases e : vO.ownBlock = none <;> simp [e]), h5,
    h6.same fun _ _ h => h.keep hb, h7.same fun _ _ h => h.keep hb⟩
theorem TabM.tab {B : Nat} {w : World} {T : Nat} {vN vO : Value} {rN rO : List Value} {N O : List (List Value)} {v5 v6 : Value} {x5 x6 : List Value} (h : TabM B w T vN vO vN vO rN rO N O v5 x5 v6 x6) : Tab B w T N O :=
  ⟨vN, vO, rN, rO, h.bs, h.blk, h.oN, h.oO, h.ne, h.rowsN, h.rowsO⟩
theorem Tab.more {B : Nat} {w w' : World} {T : Nat} {N O : List (List Value)} (h : Tab B w T N O) (hb : Below w.heap.size w w') {v5 v6 : Value} {x5 x6 : List Value} (h5 : RowV w' 2 v5 x5) (h6 : RowV w' 2 v6 x6) :
    ∃ vN vO rN rO, TabM B w' T vN vO vN vO rN rO N O v5 x5 v6 x6 := by
  obtain ⟨vN, vO, rN, rO, h1, h2, h3, h4, h5', h6', h7⟩ := h.keep hb
  exact ⟨vN, vO, rN, rO, h1, h2, h3, h4, h5', h6', h7, h5, h6⟩
theorem Tab.start {B : Nat} {w : World} {T : Nat} (h : Blk w T [.slice none 0 0, .slice none 0 0] 168) (hB : B ≤ w.heap.size) : Tab B w T [] [] :=
  ⟨_, _, [], [], hB, h, World.ownsRow_nil _ _ _ _, World.ownsRow_nil _ _ _ _, .inl rfl, ⟨rfl, fun i v xs h => by simp at h⟩, ⟨rfl, fun i v xs h => by simp at h⟩⟩
end Go.Proofs.Yteagecoiijhflaa

/- What the laws ask of a result that is a slice of numbers. -/
namespace Go.Proofs.Yteagecoiijhflaa
open Go.RowKit
set_option linter.unusedVariables false
set_option linter.unusedSimpArgs false

/-- v is a slice of the numbers xs, in memory from B on that is its own -/
def OwnI (w : World) (B : Nat) (v : Value) (xs : List Int) : Prop := w.ownsRow B 2 1 v xs.length (i64s xs)
theorem OwnI.below {w w' : World} {B : Nat} {v : Value} {xs : List Int} (h : OwnI w B v xs) (hb : Below w.heap.size w w') : OwnI w' B v xs := by
  have hg : w.grownBy w' none := ⟨hb.os, hb.tape, hb.output, hb.size, fun k hk _ => hb.block k hk⟩
  exact World.ownsRow.kept h hg (by by_cases e : v.ownBlock = none <;> simp [e])
theorem OwnI.keep {w w' : World} {B C : Nat} {v : Value} {xs : List Int} (h : OwnI w B v xs) (hb : Below C w w') (hC : ∀ k, v.ownBlock = some k → k < C) : OwnI w' B v xs := by
  refine ⟨h.1, ?_⟩
  rcases h.2 with hn | ⟨g, cap, cur, rfl, h1, h2, rest⟩
  · exact .inl hn
  · exact .inr ⟨g, cap, cur, rfl, h1, (hb.block g (hC g rfl)).trans h2, rest⟩
theorem OwnI.less {w : World} {B C : Nat} {v : Value} {xs : List Int} (h : OwnI w B v xs) (hC : C ≤ B) : OwnI w C v xs := by
  refine ⟨h.1, ?_⟩
  rcases h.2 with hn | ⟨g, cap, cur, hv, h1, rest⟩
  · exact .inl hn
  · exact .inr ⟨g, cap, cur, hv, by omega, rest⟩
/-- its form -/
theorem OwnI.form {w : World} {B : Nat} {v : Value} {xs : List Int} (h : OwnI w B v xs) : ∃ a c, v = .slice a xs.length c ∧ IntsAt w a xs := by
  rcases h.2 with ⟨rfl, h0⟩ | ⟨g, cap, cur, rfl, h1, hg, h2, h3, h4, h5⟩
  · exact ⟨none, 0, by rw [h0], fun i hi => by omega⟩
  · refine ⟨some ⟨g, 0, none⟩, cap, rfl, fun i hi => ⟨g, 0, rfl, ?_⟩⟩
    rw [Nat.zero_add]
    have := World.ownsRow.cellAt h i (by omega)
    rw [this, i64s_get hi]

def marks (k n : Nat) : List Int := (List.range n).map fun i => ((k + i : Nat) : Int)
theorem marks_length (k n : Nat) : (marks k n).length = n := by simp [marks]

set_option maxHeartbeats 1000000 in
theorem eqI_any (a b : Option Addr) (c d : Nat) (xs ys : List Int) (hx : xs.length ≤ 2000000) (w : World) (ha : IntsAt w a xs) (hb : IntsAt w b ys) :
    Calls Try.prog 20 #[.slice a xs.length c, .slice b ys.length d] w (Ret (.bool (decide (xs = ys))) w) := by
  have HA := Lib.hid ha
  have HB := Lib.hid hb
  clear ha hb
  go_enter Try.func20, Try.ntmps20
  by_cases hl : xs.length = ys.length
  · have hle : ((xs.length : Int) == (ys.length : Int)) = true := by simp; omega
    have hln : ((xs.length : Int) != (ys.length : Int)) = false := by simp; omega
    go_wp2
    go_loopw [5] (fun i wr => ∃ k : Nat, k ≤ xs.length ∧ i = .int .i64 k ∧ Below w.heap.size w wr ∧ Hid (∀ j, j < k → xs[j]? = ys[j]?)) (fun i _ => xs.length - (intOf i).toNat)
    case atStart => exact ⟨0, Nat.zero_le _, rfl, Below.refl _ _, fun j hj => by omega⟩
    case round =>
      obtain ⟨k, hk, rfl, hb, HE⟩ := hrel
      by_cases hlt : k < xs.length
      · obtain ⟨g, off, rfl, hc⟩ := HA.out k hlt
        obtain ⟨g', off', rfl, hc'⟩ := HB.out k (by omega)
        rw [← hb.cell (p := ⟨g, off + k, none⟩) (World.block_lt_of_cell? w _ hc)] at hc
        rw [← hb.cell (p := ⟨g', off' + k, none⟩) (World.block_lt_of_cell? w _ hc')] at hc'
        have i1 : (0 : Int) ≤ (k : Int) := by omega
        have i2 : (k : Int) < (xs.length : Int) := by omega
        have i3 : (k : Int) < (ys.length : Int) := by omega
        have i4 : k < ys.length := by omega
        obtain ⟨x, hx⟩ : ∃ x, x = xs[k]?.getD 0 := ⟨_, rfl⟩
        obtain ⟨y, hy⟩ : ∃ y, y = ys[k]?.getD 0 := ⟨_, rfl⟩
        rw [← hx] at hc
        rw [← hy] at hc'
        by_cases e : x = y
        · have HN : Hid (∀ j, j < k + 1 → xs[j]? = ys[j]?) := fun j hj => by
            by_cases h : j = k
            · subst h
              rw [List.getElem?_eq_getElem hlt, List.getElem?_eq_getElem i4] at *
              simp only [Option.getD_some] at hx hy
              rw [← hx, ← hy, e]
            · exact HE.out j (by omega)
          subst e
          clear hx hy
          go_wp2
          go_quiet (fail)
          go_wp2
          go_roundw
          case rel => exact ⟨k + 1, by omega, by go_num, below_dN hb _, HN⟩
          case measure => simp [intOf]; omega
        · have H : Hid (decide (xs = ys) = false) := by
            show _ = _
            simp only [decide_eq_false_iff_not]; intro h; rw [h] at hx; exact e (hx.trans hy.symm)
          have e' : (x != y) = true := by simpa using e
          clear e hx hy
          go_wp2
          go_quiet (fail)
          go_wp2
          go_ret
          exact ⟨ret_bool H.out.symm, below_dN hb _⟩
      · have H : Hid (decide (xs = ys) = true) := by
          show _ = _
          simp only [decide_eq_true_eq]
          apply List.ext_getElem?
          intro j
          by_cases hj : j < k
          · exact HE.out j hj
          · rw [List.getElem?_eq_none (by omega), List.getElem?_eq_none (by omega)]
        go_wp2
        go_ret
        exact ⟨ret_bool H.out.symm, hb⟩
  · have H : Hid (decide (xs = ys) = false) := by
      show _ = _
      simp only [decide_eq_false_iff_not]; intro e; rw [e] at hl; exact hl rfl
    have hle : ((xs.length : Int) == (ys.length : Int)) = false := by simp; omega
    have hln : ((xs.length : Int) != (ys.length : Int)) = true := by simp; omega
    clear hl
    go_wp2_with fail
    go_ret
    exact ⟨ret_bool H.out.symm, Below.refl _ _⟩

theorem eqI_same (a b : Option Addr) (c d : Nat) (xs : List Int) (hx : xs.length ≤ 2000000) (w : World) (ha : IntsAt w a xs) (hb : IntsAt w b xs) :
    Calls Try.prog 20 #[.slice a xs.length c, .slice b xs.length d] w (Ret (.bool true) w) := by
  have := eqI_any a b c d xs xs hx w ha hb
  rwa [show decide (xs = xs) = true from by simp] at this

/-- i numbers marked, from k on; the rest as it was -/
def mixM (k i : Nat) (xs : List Int) : List Int := marks k i ++ xs.drop i
theorem mixM_length (k i : Nat) (xs : List Int) (h : i ≤ xs.length) : (mixM k i xs).length = xs.length := by simp [mixM, marks_length]; omega
theorem mixM_succ (k i : Nat) (xs : List Int) (h : i < xs.length) : (i64s (mixM k i xs)).set i (.int .i64 ((k + i : Nat) : Int)) = i64s (mixM k (i + 1) xs) := by
  have e : marks k (i + 1) = marks k i ++ [((k + i : Nat) : Int)] := by simp [marks, List.range_succ]
  simp only [mixM, i64s, e, List.map_append]
  rw [List.set_append_right _ _ (by simp [marks_length]), List.append_assoc]
  congr 1
  rw [show i - ((marks k i).map (Value.int .i64)).length = 0 by simp [marks_length], List.drop_eq_getElem_cons h, List.map_cons, List.set_cons_zero]
  rfl
theorem mixM_all (k : Nat) (xs : List Int) : mixM k xs.length xs = marks k xs.length := by simp [mixM]
theorem marks_get {k n i : Nat} (h : i < n) : (marks k n)[i]?.getD 0 = ((k + i : Nat) : Int) := by simp [marks, h]

set_option maxHeartbeats 1000000 in
theorem markI_any (B : Nat) (v : Value) (xs : List Int) (k : Nat) (hx : xs.length ≤ 1000000) (hk : k ≤ 1000000) (w : World) (hB : B ≤ w.heap.size) (h : OwnI w B v xs) :
    Calls Try.prog 21 #[v, .int .i64 (k : Int)] w fun e w' => e = .returned (.int .i64 ((k + xs.length : Nat) : Int)) ∧ Below B w w' ∧ OwnI w' B v (marks k xs.length) := by
  obtain ⟨a, c, rfl, -⟩ := h.form
  have H0 : Hid (OwnI w B (.slice a xs.length c) (mixM k 0 xs)) := by
    show OwnI _ _ _ _
    simpa [mixM, marks] using h
  clear h
  go_enter Try.func21, Try.ntmps21
  go_wp2
  go_loopw [1, 5] (fun u i wr => ∃ j : Nat, j ≤ xs.length ∧ i = .int .i64 j ∧ u = .int .i64 ((k + j : Nat) : Int) ∧ Below B w wr ∧ Hid (OwnI wr B (.slice a xs.length c) (mixM k j xs))) (fun _ i _ => xs.length - (intOf i).toNat)
  case atStart => exact ⟨0, Nat.zero_le _, rfl, rfl, Below.refl _ _, H0⟩
  case round =>
    clear H0
    obtain ⟨j, hj, rfl, rfl, hb, HO⟩ := hrel
    by_cases hlt : j < xs.length
    · have hO := HO.out
      have hlen := mixM_length k j xs hj
      obtain ⟨g, rfl, hgB⟩ : ∃ g, a = some ⟨g, 0, none⟩ ∧ B ≤ g := by
        rcases hO.2 with ⟨_, e⟩ | ⟨g, cap, cur, hv, h1, rest⟩
        · omega
        · simp at hv; exact ⟨g, hv.1, h1⟩
      have hO' : wr.ownsRow B 2 1 (.slice (some ⟨g, 0, none⟩) xs.length c) xs.length (i64s (mixM k j xs)) := by
        have := hO; rw [OwnI, hlen] at this; exact this
      have hcell := hO'.cellAt j (by omega)
      rw [i64s_get (by omega)] at hcell
      have hfz := hO'.frozenAt j
      have hset : Hid (OwnI (wr.setCell ⟨g, j, none⟩ (.int .i64 ((k + j : Nat) : Int))) B (.slice (some ⟨g, 0, none⟩) xs.length c) (mixM k (j + 1) xs)) := by
        have := (hO'.stored j (.int .i64 ((k + j : Nat) : Int))).1
        rw [mixM_succ k j xs hlt] at this
        show World.ownsRow _ _ _ _ _ _ _
        rw [mixM_length k (j + 1) xs hlt]
        exact this
      have hb' := hb.setCell (p := ⟨g, j, none⟩) hgB (.int .i64 ((k + j : Nat) : Int))
      have i1 : (0 : Int) ≤ (j : Int) := by omega
      have i2 : (j : Int) < (xs.length : Int) := by omega
      obtain ⟨z, hz⟩ : ∃ z, (mixM k j xs)[j]?.getD 0 = z := ⟨_, rfl⟩
      rw [hz] at hcell
      clear hz hO hO' hlen
      go_wp2
      go_roundw
      case rel => exact ⟨j + 1, by omega, by go_num, by go_num, hb', hset⟩
      case measure => simp [intOf]; omega
    · have hj' : j = xs.length := by omega
      subst hj'
      rw [mixM_all] at HO
      go_wp2
      go_ret
      exact ⟨rfl, hb, HO.out⟩

set_option maxHeartbeats 1000000 in
theorem heldI_any (B : Nat) (v : Value) (k n : Nat) (hx : n ≤ 1000000) (hk : k ≤ 1000000) (w : World) (h : OwnI w B v (marks k n)) :
    Calls Try.prog 22 #[v, .int .i64 (k : Int)] w (Ret (.int .i64 ((k + n : Nat) : Int)) w) := by
  obtain ⟨a, c, rfl, hI⟩ := h.form
  rw [marks_length]
  have HI := Lib.hid hI
  clear h hI
  go_enter Try.func22, Try.ntmps22
  go_wp2
  go_loopw [1, 5] (fun u i wr => ∃ j : Nat, j ≤ n ∧ i = .int .i64 j ∧ u = .int .i64 ((k + j : Nat) : Int) ∧ Below w.heap.size w wr) (fun _ i _ => n - (intOf i).toNat)
  case atStart => exact ⟨0, Nat.zero_le _, rfl, rfl, Below.refl _ _⟩
  case round =>
    obtain ⟨j, hj, rfl, rfl, hb⟩ := hrel
    by_cases hlt : j < n
    · obtain ⟨g, off, rfl, hc⟩ := HI.out j (by rw [marks_length]; exact hlt)
      rw [← hb.cell (p := ⟨g, off + j, none⟩) (World.block_lt_of_cell? w _ hc), marks_get hlt] at hc
      have i1 : (0 : Int) ≤ (j : Int) := by omega
      have i2 : (j : Int) < (n : Int) := by omega
      go_wp2
      go_roundw
      case rel => exact ⟨j + 1, by omega, by go_num, by go_num, hb⟩
      case measure => simp [intOf]; omega
    · have hj' : j = n := by omega
      subst hj'
      go_wp2
      go_ret
      exact ⟨rfl, hb⟩
end Go.Proofs.Yteagecoiijhflaa

/- Activities: no program in sight. -/
namespace Go.Proofs.Yteagecoiijhflaa
set_option linter.unusedVariables false
set_option linter.unusedSimpArgs false

def updN (f : Nat → Nat) (j v : Nat) : Nat → Nat := fun q => if q = j then v else f q
/-- x letters of state r done -/
def nxX (m : Mch) (now : Nat → Nat) (r : Nat) : Nat → (Nat → Nat) → Nat → Nat
  | 0, f => f
  | x + 1, f => updN (nxX m now r x f) (m.nn r x) (nxX m now r x f (m.nn r x) + now r)
/-- r states done, those that p lets in -/
def nxRow (m : Mch) (p : Nat → Bool) (now : Nat → Nat) : Nat → Nat → Nat
  | 0 => fun _ => 0
  | r + 1 => if p r then nxX m now r m.l (nxRow m p now r) else nxRow m p now r
def sumR (m : Mch) (now : Nat → Nat) : Nat → Nat
  | 0 => 0
  | r + 1 => sumR m now r + (if trivB m r then 0 else now r)
def nowS (m : Mch) (p : Nat → Bool) (q : Nat) : Nat → Nat → Nat
  | 0 => fun r => if r = q then 1 else 0
  | k + 1 => nxRow m p (nowS m p q k) m.s
/-- the states that are not trivial -/
def ntB (m : Mch) (r : Nat) : Bool := !trivB m r
def allB (r : Nat) : Bool := true
def acts (m : Mch) (q n : Nat) : List Int := (List.range n).map fun k => (sumR m (nowS m allB q k) m.s : Int)

/-- how often r goes on to t by its first x letters -/
def hits (m : Mch) (r t : Nat) : Nat → Nat
  | 0 => 0
  | x + 1 => hits m r t x + if m.nn r x = t then 1 else 0
theorem nxX_at (m : Mch) (now : Nat → Nat) (r t : Nat) (f : Nat → Nat) : ∀ x, nxX m now r x f t = f t + now r * hits m r t x
  | 0 => by simp [nxX, hits]
  | x + 1 => by
    simp only [nxX, updN, hits]
    by_cases h : t = m.nn r x
    · rw [if_pos h, if_pos h.symm, ← h, nxX_at m now r t f x, Nat.mul_add, Nat.mul_one]; omega
    · rw [if_neg h, if_neg (Ne.symm h), nxX_at m now r t f x]; simp
def inflow (m : Mch) (p : Nat → Bool) (now : Nat → Nat) (t : Nat) : Nat → Nat
  | 0 => 0
  | r + 1 => inflow m p now t r + if p r then now r * hits m r t m.l else 0
theorem nxRow_at (m : Mch) (p : Nat → Bool) (now : Nat → Nat) (t : Nat) : ∀ r, nxRow m p now r t = inflow m p now t r
  | 0 => rfl
  | r + 1 => by
    simp only [nxRow, inflow]
    split
    · rw [nxX_at, nxRow_at m p now t r]
    · rw [nxRow_at m p now t r]; rfl
theorem hits_zero {m : Mch} {r t : Nat} : ∀ x, (∀ y, y < x → m.nn r y ≠ t) → hits m r t x = 0
  | 0, _ => rfl
  | x + 1, h => by simp only [hits]; rw [hits_zero x (fun y hy => h y (by omega)), if_neg (h x (by omega))]
theorem nowS_eq {m : Mch} (hok : m.Ok) (hwf : m.Wf) (q : Nat) : ∀ k t, t < m.s → trivB m t = false → nowS m (ntB m) q k t = nowS m allB q k t
  | 0, _, _, _ => rfl
  | k + 1, t, ht, hn => by
    simp only [nowS, nxRow_at]
    have : ∀ r, r ≤ m.s → inflow m (ntB m) (nowS m (ntB m) q k) t r = inflow m allB (nowS m allB q k) t r := by
      intro r
      induction r with
      | zero => intro _; rfl
      | succ r ih =>
        intro hr
        simp only [inflow]
        rw [ih (by omega)]
        congr 1
        by_cases e : trivB m r = true
        · have hz : hits m r t m.l = 0 := hits_zero _ fun y hy h => by
            have h1 := ((trivB_iff hok hwf (by omega)).1 e).next hy
            rw [h] at h1
            rw [(trivB_iff hok hwf ht).2 h1] at hn; cases hn
          simp [ntB, allB, e, hz]
        · have e' : trivB m r = false := by simpa using e
          simp only [ntB, allB, e', Bool.not_false, if_true]
          rw [nowS_eq hok hwf q k r (by omega) e']
    exact this m.s (Nat.le_refl _)
theorem sumR_eq {m : Mch} {f g : Nat → Nat} (h : ∀ t, t < m.s → trivB m t = false → f t = g t) : ∀ r, r ≤ m.s → sumR m f r = sumR m g r
  | 0, _ => rfl
  | r + 1, hr => by
    simp only [sumR]
    rw [sumR_eq h r (by omega)]
    by_cases e : trivB m r = true
    · simp [e]
    · have e' : trivB m r = false := by simpa using e
      rw [h r (by omega) e']

/-! Bounds -/
def tot (f : Nat → Nat) : Nat → Nat
  | 0 => 0
  | r + 1 => tot f r + f r
theorem tot_upd (f : Nat → Nat) (j v : Nat) : ∀ n, j < n → tot (updN f j (f j + v)) n = tot f n + v
  | 0, h => by omega
  | n + 1, h => by
    simp only [tot]
    by_cases e : j = n
    · subst e
      have : ∀ i, i ≤ j → tot (updN f j (f j + v)) i = tot f i := by
        intro i; induction i with
        | zero => intro _; rfl
        | succ i ih => intro hi; simp only [tot]; rw [ih (by omega)]; congr 1; simp only [updN]; rw [if_neg (by omega)]
      rw [this j (Nat.le_refl _)]; simp [updN]; omega
    · rw [tot_upd f j v n (by omega)]
      have : updN f j (f j + v) n = f n := by simp only [updN]; rw [if_neg (by omega)]
      omega
theorem le_tot (f : Nat → Nat) : ∀ n t, t < n → f t ≤ tot f n
  | n + 1, t, h => by
    simp only [tot]
    by_cases e : t = n
    · subst e; omega
    · have := le_tot f n t (by omega); omega
theorem tot_nxX {m : Mch} (hok : m.Ok) (hwf : m.Wf) (now f : Nat → Nat) {r : Nat} (hr : r < m.s) : ∀ x, x ≤ m.l → tot (nxX m now r x f) m.s = tot f m.s + now r * x
  | 0, _ => by simp [nxX]
  | x + 1, hx => by
    simp only [nxX]
    rw [tot_upd _ _ _ _ (hok.nn_lt hwf hr (by omega)), tot_nxX hok hwf now f hr x (by omega), Nat.mul_add, Nat.mul_one]; omega
theorem tot_nxRow {m : Mch} (hok : m.Ok) (hwf : m.Wf) (p : Nat → Bool) (now : Nat → Nat) : ∀ r, r ≤ m.s → tot (nxRow m p now r) m.s ≤ m.l * tot now r
  | 0, _ => by
    have : ∀ n, tot (fun _ => 0) n = 0 := fun n => by induction n with | zero => rfl | succ n ih => simp [tot, ih]
    simp [nxRow, this, tot]
  | r + 1, hr => by
    have ih := tot_nxRow hok hwf p now r (by omega)
    simp only [nxRow, tot, Nat.mul_add]
    split
    · rw [tot_nxX hok hwf now _ (by omega) m.l (Nat.le_refl _), Nat.mul_comm (now r)]; omega
    · omega
theorem tot_mono (f : Nat → Nat) : ∀ n d, tot f n ≤ tot f (n + d)
  | n, 0 => Nat.le_refl _
  | n, d + 1 => by have := tot_mono f n d; rw [← Nat.add_assoc]; simp only [tot]; omega
theorem tot_nowS {m : Mch} (hok : m.Ok) (hwf : m.Wf) (p : Nat → Bool) {q : Nat} (hq : q < m.s) : ∀ k, tot (nowS m p q k) m.s ≤ 3 ^ k
  | 0 => by
    have : ∀ n, tot (fun r => if r = q then 1 else 0) n = if q < n then 1 else 0 := fun n => by
      induction n with
      | zero => rfl
      | succ n ih =>
        simp only [tot, ih]
        repeat' split
        all_goals omega
    simp only [nowS, this]; split <;> simp
  | k + 1 => by
    simp only [nowS, Nat.pow_succ]
    have h1 := tot_nxRow hok hwf p (nowS m p q k) m.s (Nat.le_refl _)
    have h2 := tot_nowS hok hwf p hq k
    have h3 := hok.l_le
    have := Nat.mul_le_mul h3 h2
    omega
theorem pow3 {k : Nat} (hk : k ≤ 21) : 3 ^ k ≤ 10460353203 := by
  have := Nat.pow_le_pow_right (n := 3) (by omega) hk
  simpa using this
theorem sumR_le (m : Mch) (now : Nat → Nat) : ∀ r, sumR m now r ≤ tot now r
  | 0 => Nat.le_refl _
  | r + 1 => by have := sumR_le m now r; simp only [sumR, tot]; split <;> omega
end Go.Proofs.Yteagecoiijhflaa
