import Derived.Test.YteagecoiijhflaaZLOrderOf16
/- The program's search for an order in the memory: one block for the search, a row for its path, words somewhere. -/
namespace Go.Proofs.Yteagecoiijhflaa
open Go.RowKit
set_option linter.unusedVariables false
set_option linter.unusedSimpArgs false

/-- the cells of one word of the path -/
def rowS (h : Value) (p : Wd × Nat × Nat) : List Value := [h, .int .i64 (p.2.1 : Int), .int .i64 (p.2.2 : Int)]
def cellsS : List Value → Pth → List Value
  | h :: hs, p :: D => rowS h p ++ cellsS hs D
  | _, _ => []
theorem cellsS_len : ∀ {hs : List Value} {D : Pth}, hs.length = D.length → (cellsS hs D).length = D.length * 3
  | [], [], _ => rfl
  | h :: hs, p :: D, e => by
    have := cellsS_len (hs := hs) (D := D) (by simpa using e)
    simp only [cellsS, rowS, List.length_append, List.length_cons, List.length_nil, this]; omega
  | [], _ :: _, e => by simp at e
  | _ :: _, [], e => by simp at e
theorem cellsS_snoc : ∀ {hs : List Value} {D : Pth} (h : Value) (p : Wd × Nat × Nat), hs.length = D.length → cellsS (hs ++ [h]) (D ++ [p]) = cellsS hs D ++ rowS h p
  | [], [], h, p, _ => by simp [cellsS]
  | h' :: hs, p' :: D, h, p, e => by
    simp only [List.cons_append, cellsS]
    rw [cellsS_snoc h p (by simpa using e), List.append_assoc]
  | [], _ :: _, _, _, e => by simp at e
  | _ :: _, [], _, _, e => by simp at e
theorem cellsS_at : ∀ {hs : List Value} {D : Pth} {i j : Nat} {h : Value} {p : Wd × Nat × Nat}, hs[i]? = some h → D[i]? = some p → j < 3 → (cellsS hs D)[i * 3 + j]? = (rowS h p)[j]?
  | [], _, i, _, _, _, e, _, _ => by simp at e
  | _ :: _, [], i, _, _, _, _, e, _ => by simp at e
  | h' :: hs, p' :: D, 0, j, h, p, e1, e2, hj => by
    simp at e1 e2; subst e1 e2
    simp only [cellsS, Nat.zero_mul, Nat.zero_add]
    rw [List.getElem?_append_left (by simp [rowS]; omega)]
  | h' :: hs, p' :: D, i + 1, j, h, p, e1, e2, hj => by
    simp only [List.getElem?_cons_succ] at e1 e2
    simp only [cellsS]
    rw [List.getElem?_append_right (by simp [rowS]; omega), ← cellsS_at e1 e2 hj]
    congr 1
    simp only [rowS, List.length_cons, List.length_nil]; omega
theorem cellsS_one : ∀ {hs : List Value} {D : Pth}, (∀ h ∈ hs, h.oneCell' = true) → ∀ y ∈ cellsS hs D, y.oneCell' = true
  | [], _, _, y, hy => by simp [cellsS] at hy
  | _ :: _, [], _, y, hy => by simp [cellsS] at hy
  | h :: hs, p :: D, h1, y, hy => by
    simp only [cellsS, List.mem_append] at hy
    rcases hy with hy | hy
    · simp only [rowS, List.mem_cons, List.not_mem_nil, or_false] at hy
      rcases hy with rfl | rfl | rfl
      · exact h1 _ (List.mem_cons_self ..)
      · rfl
      · rfl
    · exact cellsS_one (fun x hx => h1 x (List.mem_cons_of_mem _ hx)) y hy

/-- what a step of the search leaves: all but its own block and the row of its path -/
structure Fr (w w' : World) (sb : Nat) (pv pv' : Value) : Prop where
  os : w'.os = w.os
  tape : w'.tape = w.tape
  output : w'.output = w.output
  size : w.heap.size ≤ w'.heap.size
  block : ∀ k, k < w.heap.size → k ≠ sb → pv.ownBlock ≠ some k → w'.heap[k]? = w.heap[k]?
  lies : pv'.ownBlock = pv.ownBlock ∨ ∃ k, pv'.ownBlock = some k ∧ w.heap.size ≤ k
theorem Fr.refl (w : World) (sb : Nat) (pv : Value) : Fr w w sb pv pv := ⟨rfl, rfl, rfl, Nat.le_refl _, fun _ _ _ _ => rfl, .inl rfl⟩
theorem Fr.trans {w w1 w2 : World} {sb : Nat} {pv pv1 pv2 : Value} (h : Fr w w1 sb pv pv1) (h' : Fr w1 w2 sb pv1 pv2) : Fr w w2 sb pv pv2 := by
  refine ⟨h'.os.trans h.os, h'.tape.trans h.tape, h'.output.trans h.output, Nat.le_trans h.size h'.size, fun k hk hs hp => ?_, ?_⟩
  · refine (h'.block k (Nat.lt_of_lt_of_le hk h.size) hs fun e => ?_).trans (h.block k hk hs hp)
    rcases h.lies with l | ⟨q, l1, l2⟩
    · rw [l] at e; exact hp e
    · rw [l1] at e; injection e with e; omega
  · rcases h'.lies with l | ⟨q, l1, l2⟩
    · rw [l]; exact h.lies
    · exact .inr ⟨q, l1, Nat.le_trans h.size l2⟩
theorem Fr.of_below {w w' : World} (hb : Below w.heap.size w w') (sb : Nat) (pv : Value) : Fr w w' sb pv pv :=
  ⟨hb.os, hb.tape, hb.output, hb.size, fun k hk _ _ => hb.block k hk, .inl rfl⟩
theorem Fr.below {w w' : World} {sb B : Nat} {pv pv' : Value} (h : Fr w w' sb pv pv') (hs : B ≤ sb) (hp : ∀ k, pv.ownBlock = some k → B ≤ k) (hB : B ≤ w.heap.size) : Below B w w' :=
  ⟨h.os, h.tape, h.output, h.size, fun k hk => h.block k (by omega) (by omega) (fun e => by have := hp k e; omega)⟩
theorem Fr.ints {w w' : World} {sb : Nat} {pv pv' : Value} {a : Option Addr} {xs : List Int} (h : Fr w w' sb pv pv') (hI : IntsAt w a xs) (hs : ∀ ad, a = some ad → ad.block ≠ sb ∧ pv.ownBlock ≠ some ad.block) : IntsAt w' a xs := fun i hi => by
  obtain ⟨g, off, e, hc⟩ := hI i hi
  refine ⟨g, off, e, ?_⟩
  have := hs _ e
  exact (World.cell?_of_block (w := w) (a := ⟨g, off + i, none⟩) (h.block g (World.block_lt_of_cell? w _ hc) this.1 this.2)).trans hc
theorem Fr.sep {w w' : World} {sb k : Nat} {pv pv' : Value} (h : Fr w w' sb pv pv') (hk : k < w.heap.size) (hs : pv.ownBlock ≠ some k) : pv'.ownBlock ≠ some k := fun e => by
  rcases h.lies with l | ⟨q, l1, l2⟩
  · rw [l] at e; exact hs e
  · rw [l1] at e; injection e with e; omega

theorem Fr.wd {w w' : World} {sb : Nat} {pv pv' : Value} {a : Option Addr} {xs : List Int} (h : Fr w w' sb pv pv') (hI : IntsAt w a xs) (hs : ∀ ad, a = some ad → ad.block ≠ sb ∧ pv.ownBlock ≠ some ad.block ∧ ad.block < w.heap.size) :
    IntsAt w' a xs ∧ ∀ ad, a = some ad → ad.block ≠ sb ∧ pv'.ownBlock ≠ some ad.block ∧ ad.block < w'.heap.size :=
  ⟨h.ints hI fun ad e => ⟨(hs ad e).1, (hs ad e).2.1⟩, fun ad e => ⟨(hs ad e).1, h.sep (hs ad e).2.2 (hs ad e).2.1, Nat.lt_of_lt_of_le (hs ad e).2.2 h.size⟩⟩

/-- the search: its block sb (the group at G, the path pv, the proof), the row of the path (the words' headers hs), the words -/
structure SrM (B : Nat) (w0 w : World) (G sb : Nat) (pv : Value) (s : ByteArray) (f : Nat) (hs : List Value) (D : Pth) : Prop where
  below : Below B w0 w
  size : B ≤ w.heap.size
  lo : B ≤ sb
  blk : Blk w sb [.pointer (some ⟨G, 0, none⟩), pv, .string s, .int .i64 (f : Int)] 143
  hl : hs.length = D.length
  own : w.ownsRow B 140 3 pv D.length (cellsS hs D)
  sep : pv.ownBlock ≠ some sb
  ws : ∀ (i : Nat) (p : Wd × Nat × Nat), D[i]? = some p → ∃ a c, hs[i]? = some (Value.slice a p.1.length c) ∧ IntsAt w a p.1 ∧ ∀ ad, a = some ad → ad.block ≠ sb ∧ pv.ownBlock ≠ some ad.block ∧ ad.block < w.heap.size
section
variable {B : Nat} {w0 w : World} {G sb : Nat} {pv : Value} {s : ByteArray} {f : Nat} {hs : List Value} {D : Pth}
theorem SrM.call (h : SrM B w0 w G sb pv s f hs D) {w' : World} (hb : Below w.heap.size w w') : SrM B w0 w' G sb pv s f hs D :=
  ⟨h.below.trans (hb.mono h.size), Nat.le_trans h.size hb.size, h.lo, h.blk.keep hb, h.hl, ownRow_keep h.own hb, h.sep, fun i p hi => by
    obtain ⟨a, c, e, hI, hx⟩ := h.ws i p hi
    exact ⟨a, c, e, hI.keep hb, fun ad ea => ⟨(hx ad ea).1, (hx ad ea).2.1, Nat.lt_of_lt_of_le (hx ad ea).2.2 hb.size⟩⟩⟩
theorem SrM.drewN (h : SrM B w0 w G sb pv s f hs D) (n : Nat) : SrM B w0 (w.drewN n) G sb pv s f hs D := h.call ⟨rfl, rfl, rfl, Nat.le_refl _, fun _ _ => rfl⟩
theorem SrM.alloc (h : SrM B w0 w G sb pv s f hs D) (o : Obj) : SrM B w0 (w.alloc o) G sb pv s f hs D := h.call ((Below.refl _ _).alloc (Nat.le_refl _) o)
theorem SrM.lt (h : SrM B w0 w G sb pv s f hs D) : sb < w.heap.size := h.blk.lt
theorem SrM.plo (h : SrM B w0 w G sb pv s f hs D) : ∀ k, pv.ownBlock = some k → B ≤ k ∧ k < w.heap.size := World.ownsRow.lt h.own
theorem SrM.form (h : SrM B w0 w G sb pv s f hs D) (hD : 0 < D.length) : ∃ g c, pv = .slice (some ⟨g, 0, none⟩) D.length c ∧ B ≤ g ∧ g < w.heap.size := h.own.form hD
/-- a row of the path -/
theorem SrM.row {g c : Nat} (h : SrM B w0 w G sb (.slice (some ⟨g, 0, none⟩) D.length c) s f hs D) {i : Nat} {p : Wd × Nat × Nat} (hi : D[i]? = some p) : ∃ a c', hs[i]? = some (Value.slice a p.1.length c') ∧ IntsAt w a p.1 ∧ w.rangeAt g (i * 3) (rowS (Value.slice a p.1.length c') p) := by
  obtain ⟨a, c', e, hI, -⟩ := h.ws i p hi
  refine ⟨a, c', e, hI, fun j v hj => ?_⟩
  have hj3 : j < 3 := by
    have := (List.getElem?_eq_some_iff.1 hj).1
    simpa [rowS] using this
  have h1 := cellsS_at e hi hj3
  rw [hj] at h1
  have h2 := World.ownsRow.cells h.own (g := g) rfl _ _ h1
  rwa [show (⟨g, 0, none⟩ : Addr).add (i * 3 + j) = ⟨g, i * 3 + j, none⟩ by unfold Addr.add; split <;> simp_all] at h2
/-- the proof is written -/
theorem SrM.setProof (h : SrM B w0 w G sb pv s f hs D) (s' : ByteArray) (f' : Nat) : SrM B w0 (w.setCells sb 2 [.string s', .int .i64 (f' : Int)]) G sb pv s' f' hs D ∧ Fr w (w.setCells sb 2 [.string s', .int .i64 (f' : Int)]) sb pv pv := by
  have hsz : (w.setCells sb 2 [.string s', .int .i64 (f' : Int)]).heap.size = w.heap.size := size_setCells sb _ w 2
  have hother : ∀ k, k ≠ sb → (w.setCells sb 2 [.string s', .int .i64 (f' : Int)]).heap[k]? = w.heap[k]? := fun k hk => by
    simp only [World.setCells]
    rw [heap_setCell_other _ ⟨sb, 3, none⟩ k _ hk, heap_setCell_other _ ⟨sb, 2, none⟩ k _ hk]
  have hfr : Fr w (w.setCells sb 2 [.string s', .int .i64 (f' : Int)]) sb pv pv := ⟨rfl, rfl, rfl, by rw [hsz]; exact Nat.le_refl _, fun k _ hk _ => hother k hk, .inl rfl⟩
  have hg : w.grownBy (w.setCells sb 2 [.string s', .int .i64 (f' : Int)]) (some sb) := ⟨rfl, rfl, rfl, by rw [hsz]; exact Nat.le_refl _, fun k _ hk => hother k (fun e => hk (by rw [e]))⟩
  refine ⟨⟨below_setCells h.lo _ h.below 2, by rw [hsz]; exact h.size, h.lo, ?_, h.hl, World.ownsRow.kept h.own hg (.inr h.sep), h.sep, fun i p hi => ?_⟩, hfr⟩
  · have := h.blk.setCells [.string s', .int .i64 (f' : Int)] 2
    simpa [splice] using this
  · obtain ⟨a, c, e, hI, hx⟩ := h.ws i p hi
    exact ⟨a, c, e, hfr.wd hI hx⟩
end
/-- the last word's letter and count are written -/
theorem SrM.setLast {B : Nat} {w0 w : World} {G sb g c : Nat} {s : ByteArray} {f : Nat} {hs : List Value} {P : Pth} {p : Wd × Nat × Nat} (h : SrM B w0 w G sb (.slice (some ⟨g, 0, none⟩) (P.length + 1) c) s f hs (P ++ [p])) (x k : Nat) :
    SrM B w0 ((w.setCell ⟨g, P.length * 3 + 1, none⟩ (.int .i64 (x : Int))).setCell ⟨g, P.length * 3 + 2, none⟩ (.int .i64 (k : Int))) G sb (.slice (some ⟨g, 0, none⟩) (P.length + 1) c) s f hs (P ++ [(p.1, x, k)]) ∧
    Fr w ((w.setCell ⟨g, P.length * 3 + 1, none⟩ (.int .i64 (x : Int))).setCell ⟨g, P.length * 3 + 2, none⟩ (.int .i64 (k : Int))) sb (.slice (some ⟨g, 0, none⟩) (P.length + 1) c) (.slice (some ⟨g, 0, none⟩) (P.length + 1) c) := by
  have hDl : (P ++ [p]).length = P.length + 1 := by simp
  have hDl2 : (P ++ [(p.1, x, k)]).length = P.length + 1 := by simp
  have ho := h.own
  rw [hDl] at ho
  have h1 := ho.stored (P.length * 3 + 1) (.int .i64 (x : Int))
  have h2 := h1.1.stored (P.length * 3 + 2) (.int .i64 (k : Int))
  obtain ⟨hs', hd, rfl⟩ : ∃ hs' hd, hs = hs' ++ [hd] := by
    have e := h.hl
    rw [hDl] at e
    refine ⟨hs.dropLast, hs.getLast (by intro e'; rw [e'] at e; simp at e), (List.dropLast_concat_getLast _).symm⟩
  have hl' : hs'.length = P.length := by have := h.hl; simpa using this
  have hc : ((cellsS (hs' ++ [hd]) (P ++ [p])).set (P.length * 3 + 1) (.int .i64 (x : Int))).set (P.length * 3 + 2) (.int .i64 (k : Int)) = cellsS (hs' ++ [hd]) (P ++ [(p.1, x, k)]) := by
    rw [cellsS_snoc hd p hl', cellsS_snoc hd (p.1, x, k) hl']
    have e := cellsS_len hl'
    rw [List.set_append_right _ _ (by omega), List.set_append_right _ _ (by omega), e]
    rw [show P.length * 3 + 1 - P.length * 3 = 1 by omega, show P.length * 3 + 2 - P.length * 3 = 2 by omega]
    rfl
  have hgb : g ≠ sb := fun e => h.sep (by rw [e]; rfl)
  have hfr : Fr w ((w.setCell ⟨g, P.length * 3 + 1, none⟩ (.int .i64 (x : Int))).setCell ⟨g, P.length * 3 + 2, none⟩ (.int .i64 (k : Int))) sb (.slice (some ⟨g, 0, none⟩) (P.length + 1) c) (.slice (some ⟨g, 0, none⟩) (P.length + 1) c) :=
    ⟨rfl, rfl, rfl, Nat.le_trans h1.2.size h2.2.size, fun q hq hs hp => (h2.2.block q (Nat.lt_of_lt_of_le hq h1.2.size) (fun e => hp (by rw [e]; rfl))).trans (h1.2.block q hq (fun e => hp (by rw [e]; rfl))), .inl rfl⟩
  have hplo := h.plo g rfl
  refine ⟨⟨h.below.trans (hfr.below h.lo (fun q e => by simp [Value.ownBlock] at e; omega) h.size), Nat.le_trans h.size hfr.size, h.lo, ?_, by simp [hl'], ?_, h.sep, fun i q hi => ?_⟩, hfr⟩
  · have e := (heap_setCell_other (w.setCell ⟨g, P.length * 3 + 1, none⟩ (.int .i64 (x : Int))) ⟨g, P.length * 3 + 2, none⟩ sb (.int .i64 (k : Int)) (Ne.symm hgb)).trans (heap_setCell_other w ⟨g, P.length * 3 + 1, none⟩ sb (.int .i64 (x : Int)) (Ne.symm hgb))
    exact e.trans h.blk
  · rw [hDl2, ← hc]; exact h2.1
  · by_cases e : i < P.length
    · rw [List.getElem?_append_left e] at hi
      obtain ⟨a, c', e1, hI, hx⟩ := h.ws i q (by rw [List.getElem?_append_left e]; exact hi)
      exact ⟨a, c', e1, hfr.wd hI hx⟩
    · have hi2 := (List.getElem?_eq_some_iff.1 hi).1
      obtain rfl : i = P.length := by simp at hi2; omega
      rw [List.getElem?_append_right (Nat.le_refl _)] at hi
      simp at hi; subst hi
      obtain ⟨a, c', e1, hI, hx⟩ := h.ws P.length p (by simp)
      exact ⟨a, c', e1, hfr.wd hI hx⟩
theorem ownRowS_cut {w : World} {B E sz : Nat} {v : Value} {xs : List Value} {n : Nat} (h : w.ownsRow B E sz v n xs) {g c k : Nat} (hv : v = .slice (some ⟨g, 0, none⟩) n c) (hk : k ≤ n) : w.ownsRow B E sz (.slice (some ⟨g, 0, none⟩) k c) k (xs.take (k * sz)) := by
  have hl := h.1
  have hks := Nat.mul_le_mul_right sz hk
  rcases h.2 with ⟨e, _⟩ | ⟨g', cap, cur, e, h1, h2, h3, h4, h5, h6⟩
  · rw [hv] at e; cases e
  · rw [hv] at e
    injection e with e1 e2 e3
    injection e1 with e1
    injection e1 with e1
    subst e1 e3
    refine ⟨by rw [List.length_take]; omega, .inr ⟨g, c, cur, rfl, h1, h2, by omega, h4, h5, ?_⟩⟩
    rw [← h6, List.take_take]
    congr 1
    omega
/-- the path's header is written -/
theorem sr_head {w : World} {B sb G : Nat} {s : ByteArray} {f : Nat} {pv pv' : Value} (h : Blk w sb [.pointer (some ⟨G, 0, none⟩), pv, .string s, .int .i64 (f : Int)] 143) :
    Blk (w.setCell ⟨sb, 1, none⟩ pv') sb [.pointer (some ⟨G, 0, none⟩), pv', .string s, .int .i64 (f : Int)] 143 := by
  have := h.setCells [pv'] 1
  simpa [splice, World.setCells] using this
/-- the path is cut -/
theorem SrM.cut {B : Nat} {w0 w : World} {G sb g c : Nat} {s : ByteArray} {f : Nat} {hs' : List Value} {hd : Value} {D : Pth} {p : Wd × Nat × Nat} (h : SrM B w0 w G sb (.slice (some ⟨g, 0, none⟩) (D.length + 1) c) s f (hs' ++ [hd]) (D ++ [p])) :
    SrM B w0 (w.setCell ⟨sb, 1, none⟩ (.slice (some ⟨g, 0, none⟩) D.length c)) G sb (.slice (some ⟨g, 0, none⟩) D.length c) s f hs' D ∧
    Fr w (w.setCell ⟨sb, 1, none⟩ (.slice (some ⟨g, 0, none⟩) D.length c)) sb (.slice (some ⟨g, 0, none⟩) (D.length + 1) c) (.slice (some ⟨g, 0, none⟩) D.length c) := by
  have hDl : (D ++ [p]).length = D.length + 1 := by simp
  have hl' : hs'.length = D.length := by have := h.hl; simpa using this
  have ho := h.own
  rw [hDl] at ho
  have hcut := ownRowS_cut ho rfl (Nat.le_succ D.length)
  rw [cellsS_snoc hd p hl', ← cellsS_len hl', List.take_left] at hcut
  have hother : ∀ k, k ≠ sb → (w.setCell ⟨sb, 1, none⟩ (.slice (some ⟨g, 0, none⟩) D.length c)).heap[k]? = w.heap[k]? := fun k hk => heap_setCell_other w ⟨sb, 1, none⟩ k _ hk
  have hsz : (w.setCell ⟨sb, 1, none⟩ (.slice (some ⟨g, 0, none⟩) D.length c)).heap.size = w.heap.size := by simp [World.setCell]
  have hfr : Fr w (w.setCell ⟨sb, 1, none⟩ (.slice (some ⟨g, 0, none⟩) D.length c)) sb (.slice (some ⟨g, 0, none⟩) (D.length + 1) c) (.slice (some ⟨g, 0, none⟩) D.length c) :=
    ⟨rfl, rfl, rfl, by rw [hsz]; exact Nat.le_refl _, fun k _ hk _ => hother k hk, .inl rfl⟩
  have hg : w.grownBy (w.setCell ⟨sb, 1, none⟩ (.slice (some ⟨g, 0, none⟩) D.length c)) (some sb) := ⟨rfl, rfl, rfl, by rw [hsz]; exact Nat.le_refl _, fun k _ hk => hother k (fun e => hk (by rw [e]))⟩
  refine ⟨⟨h.below.trans (hfr.below h.lo (fun k e => (h.plo k e).1) h.size), by rw [hsz]; exact h.size, h.lo, sr_head (B := B) h.blk, hl', World.ownsRow.kept hcut hg (.inr h.sep), h.sep, fun i q hi => ?_⟩, hfr⟩
  have hil := (List.getElem?_eq_some_iff.1 hi).1
  obtain ⟨a, c', e, hI, hx⟩ := h.ws i q (by rw [List.getElem?_append_left hil]; exact hi)
  rw [List.getElem?_append_left (by omega)] at e
  exact ⟨a, c', e, hfr.wd hI hx⟩
/-- a word is put behind the path: behind the append, the header is written -/
theorem SrM.push {B : Nat} {w0 w w1 : World} {G sb g' c' : Nat} {pv : Value} {s : ByteArray} {f : Nat} {hs : List Value} {D : Pth} (h : SrM B w0 w G sb pv s f hs D) {ar : Option Addr} {cr : Nat} {r : Wd} (hI : IntsAt w ar r) (hx : ∀ ad, ar = some ad → ad.block ≠ sb ∧ pv.ownBlock ≠ some ad.block ∧ ad.block < w.heap.size)
    (hown : w1.ownsRow B 140 3 (.slice (some ⟨g', 0, none⟩) (D.length + 1) c') (D.length + 1) (cellsS hs D ++ rowS (.slice ar r.length cr) (r, 0, 0))) (hgrow : w.grownBy w1 pv.ownBlock) (hlies : pv.ownBlock = some g' ∨ g' = w.heap.size) :
    SrM B w0 (w1.setCell ⟨sb, 1, none⟩ (.slice (some ⟨g', 0, none⟩) (D.length + 1) c')) G sb (.slice (some ⟨g', 0, none⟩) (D.length + 1) c') s f (hs ++ [.slice ar r.length cr]) (D ++ [(r, 0, 0)]) ∧
    Fr w (w1.setCell ⟨sb, 1, none⟩ (.slice (some ⟨g', 0, none⟩) (D.length + 1) c')) sb pv (.slice (some ⟨g', 0, none⟩) (D.length + 1) c') := by
  have hDl : (D ++ [(r, 0, 0)]).length = D.length + 1 := by simp
  have hsb := h.lt
  have hother : ∀ k, k ≠ sb → (w1.setCell ⟨sb, 1, none⟩ (.slice (some ⟨g', 0, none⟩) (D.length + 1) c')).heap[k]? = w1.heap[k]? := fun k hk => heap_setCell_other w1 ⟨sb, 1, none⟩ k _ hk
  have hsz : (w1.setCell ⟨sb, 1, none⟩ (.slice (some ⟨g', 0, none⟩) (D.length + 1) c')).heap.size = w1.heap.size := by simp [World.setCell]
  have hlies' : (Value.slice (some ⟨g', 0, none⟩) (D.length + 1) c').ownBlock = pv.ownBlock ∨ ∃ k, (Value.slice (some ⟨g', 0, none⟩) (D.length + 1) c').ownBlock = some k ∧ w.heap.size ≤ k := by
    rcases hlies with e | e
    · exact .inl e.symm
    · exact .inr ⟨g', rfl, by omega⟩
  have hfr : Fr w (w1.setCell ⟨sb, 1, none⟩ (.slice (some ⟨g', 0, none⟩) (D.length + 1) c')) sb pv (.slice (some ⟨g', 0, none⟩) (D.length + 1) c') :=
    ⟨hgrow.os, hgrow.tape, hgrow.output, by rw [hsz]; exact hgrow.size, fun k hk hs hp => (hother k hs).trans (hgrow.block k hk (Ne.symm hp)), hlies'⟩
  have hg : w1.grownBy (w1.setCell ⟨sb, 1, none⟩ (.slice (some ⟨g', 0, none⟩) (D.length + 1) c')) (some sb) := ⟨rfl, rfl, rfl, by rw [hsz]; exact Nat.le_refl _, fun k _ hk => hother k (fun e => hk (by rw [e]))⟩
  have hsep : (Value.slice (some ⟨g', 0, none⟩) (D.length + 1) c').ownBlock ≠ some sb := hfr.sep hsb h.sep
  have hblk1 : Blk w1 sb [.pointer (some ⟨G, 0, none⟩), pv, .string s, .int .i64 (f : Int)] 143 := (hgrow.block sb hsb (Ne.symm h.sep)).trans h.blk
  refine ⟨⟨h.below.trans (hfr.below h.lo (fun k e => (h.plo k e).1) h.size), Nat.le_trans h.size hfr.size, h.lo, sr_head (B := B) hblk1, by simp [h.hl], ?_, hsep, fun i q hi => ?_⟩, hfr⟩
  · rw [hDl, cellsS_snoc _ _ h.hl]
    exact World.ownsRow.kept hown hg (.inr hsep)
  · by_cases e : i < D.length
    · rw [List.getElem?_append_left e] at hi
      obtain ⟨a, c1, e1, hI1, hx1⟩ := h.ws i q hi
      have hhl := h.hl
      exact ⟨a, c1, by rw [List.getElem?_append_left (by omega)]; exact e1, hfr.wd hI1 hx1⟩
    · have hi2 := (List.getElem?_eq_some_iff.1 hi).1
      obtain rfl : i = D.length := by simp at hi2; omega
      rw [List.getElem?_append_right (Nat.le_refl _)] at hi
      simp at hi; subst hi
      refine ⟨ar, cr, by rw [← h.hl, List.getElem?_append_right (Nat.le_refl _)]; simp, hfr.wd hI hx⟩
/-- a row of somebody else grows -/
theorem SrM.grow {B : Nat} {w0 w w' : World} {G sb : Nat} {pv : Value} {s : ByteArray} {f : Nat} {hs : List Value} {D : Pth} (h : SrM B w0 w G sb pv s f hs D) {row : Option Nat} (hg : w.grownBy w' row) (hr : ∀ k, row = some k → B ≤ k ∧ k ≠ sb ∧ pv.ownBlock ≠ some k)
    (hw : ∀ (i : Nat) (a : Option Addr) (n c : Nat), hs[i]? = some (Value.slice a n c) → ∀ ad, a = some ad → row ≠ some ad.block) : SrM B w0 w' G sb pv s f hs D := by
  have hbl : ∀ k, k < w.heap.size → row ≠ some k → w'.heap[k]? = w.heap[k]? := fun k hk e => hg.block k hk (Ne.symm e)
  refine ⟨h.below.trans ⟨hg.os, hg.tape, hg.output, hg.size, fun k hk => hbl k (by have := h.size; omega) (fun e => by have := (hr k e).1; omega)⟩, Nat.le_trans h.size hg.size, h.lo, ?_, h.hl, ?_, h.sep, fun i p hi => ?_⟩
  · exact (hbl sb h.lt (fun e => (hr sb e).2.1 rfl)).trans h.blk
  · refine World.ownsRow.kept h.own hg ?_
    by_cases e : pv.ownBlock = none
    · exact .inl e
    · exact .inr fun e2 => by
        cases hrow : row with
        | none => rw [hrow] at e2; exact e e2
        | some k => exact (hr k hrow).2.2 (by rw [e2, hrow])
  · obtain ⟨a, c, e, hI, hx⟩ := h.ws i p hi
    refine ⟨a, c, e, fun j hj => ?_, fun ad ea => ⟨(hx ad ea).1, (hx ad ea).2.1, Nat.lt_of_lt_of_le (hx ad ea).2.2 hg.size⟩⟩
    obtain ⟨g, off, e2, hc⟩ := hI j hj
    exact ⟨g, off, e2, (World.cell?_of_block (w := w) (a := ⟨g, off + j, none⟩) (hbl g (World.block_lt_of_cell? w _ hc) (hw i a _ c e _ e2))).trans hc⟩
theorem Fr.own {w w' : World} {sb : Nat} {pv pv' : Value} (h : Fr w w' sb pv pv') {B E n sz : Nat} {v : Value} {xs : List Value} (ho : w.ownsRow B E sz v n xs) (hv : ∀ k, v.ownBlock = some k → k ≠ sb ∧ pv.ownBlock ≠ some k) :
    w'.ownsRow B E sz v n xs ∧ ∀ k, v.ownBlock = some k → k ≠ sb ∧ pv'.ownBlock ≠ some k := by
  have hlt := World.ownsRow.lt ho
  refine ⟨⟨ho.1, ?_⟩, fun k e => ⟨(hv k e).1, h.sep (hlt k e).2 (hv k e).2⟩⟩
  rcases ho.2 with hn | ⟨g, cap, cur, rfl, hb, hgg, rest⟩
  · exact .inl hn
  · exact .inr ⟨g, cap, cur, rfl, hb, (h.block g (Array.getElem?_eq_some_iff.1 hgg).1 (hv g rfl).1 (hv g rfl).2).trans hgg, rest⟩
end Go.Proofs.Yteagecoiijhflaa

/- The program's search: whether a word is met, and what stands behind its place. -/
namespace Go.Proofs.Yteagecoiijhflaa
open Go.RowKit
set_option linter.unusedVariables false
set_option linter.unusedSimpArgs false

theorem enters_cycle1 : Enters 156 := fun args w => by kernel_rfl
theorem infoS3 : (Try.prog.info? 140).map (·.size) = some 3 := by kernel_rfl
set_option maxRecDepth 100000 in
set_option maxHeartbeats 1000000 in
theorem cycle1_any (a ar : Option Addr) (c cr rb : Nat) (p : Wd × Nat × Nat) (r : Wd) (hp : p.1.length ≤ 1000) (hr : r.length ≤ 1000) (w : World) (hI : IntsAt w a p.1) (hb : w.cell? ⟨rb, 0, none⟩ = some (.slice ar r.length cr)) (hR : IntsAt w ar r) :
    Calls Try.prog 156 #[.agg (rowS (.slice a p.1.length c) p).toArray, .pointer (some ⟨rb, 0, none⟩)] w (Ret (.bool (decide (p.1 = r))) w) := by
  have hlt : rb < w.heap.size := World.block_lt_of_cell? w _ hb
  have hba : Below w.heap.size w (w.alloc (.cells #[.slice a p.1.length c, .int .i64 (p.2.1 : Int), .int .i64 (p.2.2 : Int)] 140)) := (Below.refl _ _).alloc (Nat.le_refl _) _
  have h2 := (hba.cell (p := ⟨rb, 0, none⟩) hlt).trans hb
  have HE := Lib.hid (slEqI_any a ar c cr p.1 r (by omega) _ (hI.keep hba) (hR.keep hba))
  have HBA := Lib.hid hba
  rw [rowS]
  clear hI hR hb hba
  generalize p.2.1 = y at *
  generalize p.2.2 = k at *
  generalize p.1 = g at *
  go_enter Try.func156, Try.ntmps156
  go_wp2_with (refine HE.out.mono ?_; rintro e w1 ⟨rfl, n, rfl⟩)
  go_ret
  exact ⟨rfl, HBA.out.trans ⟨rfl, rfl, rfl, Nat.le_refl _, fun _ _ => rfl⟩⟩

set_option maxRecDepth 100000 in
set_option maxHeartbeats 1000000 in
theorem indexFuncS_any (k : Nat) (hent : Enters k) (cap : Array Value) (g n c : Nat) (hn : n ≤ 1000000) (rv : Nat → List Value) (hl : ∀ i, (rv i).length = 3) (p : Nat → Bool) (w : World)
    (hc : ∀ i, i < n → w.rangeAt g (i * 3) (rv i)) (hf : ∀ W, Below w.heap.size w W → ∀ i, i < n → Calls Try.prog k (#[.agg (rv i).toArray] ++ cap) W (Ret (.bool (p i)) W)) :
    Calls Try.prog 155 #[.slice (some ⟨g, 0, none⟩) n c, .func (.func k) #[] cap] w (Ret (.int .i64 (idxN p n)) w) := by
  have hent' : ∀ args w, Sem.run Try.prog (callFunc k args) w = .ok (.enter k args) w := hent
  have HC := Lib.hid hc
  have HF := Lib.hid hf
  have HI := Lib.hid (fun i => (show (Try.prog.info? 140).map (·.size) = some (rv i).length by rw [hl i]; kernel_rfl))
  clear hc hf hent
  go_enter Try.func155, Try.ntmps155
  go_wp2_with fail
  go_loopw [8] (fun i wr => ∃ j : Nat, j ≤ n ∧ i = .int .i64 j ∧ Below w.heap.size w wr ∧ Hid (∀ i, i < j → p i = false)) (fun i _ => n - (intOf i).toNat)
  case atStart => exact ⟨0, Nat.zero_le _, rfl, Below.refl _ _, fun i hi => by omega⟩
  case round =>
    obtain ⟨j, hj, rfl, hb, HN⟩ := hrel
    by_cases hlt : j < n
    · have hr : wr.rangeAt g (j * 3) (rv j) := fun i v hi => by
        have h := HC.out j hlt i v hi
        exact (hb.cell (p := ⟨g, j * 3 + i, none⟩) (World.block_lt_of_cell? w _ h)).trans h
      have hi := HI.out j
      have i1 : (j : Int) < (n : Int) := by omega
      have i2 : (0 : Int) ≤ (j : Int) := by omega
      have hcall : Hid (Calls Try.prog k (#[.agg (rv j).toArray] ++ cap) wr (Ret (.bool (p j)) wr)) := HF.out wr hb j hlt
      generalize rv j = v at *
      have HI1 := Lib.hid hi
      clear hi
      go_wp2_with ((with_reducible refine ld_row ?_ 140 (.tmp 14) ?_ g (j * 3) ?_ v (.struct _) hr Try.underlying140 ?_ HI1.out ?_); exact rfl; exact rfl; exact rfl; exact rfl)
      refine hcall.out.mono ?_
      rintro e w1 ⟨rfl, hb1⟩
      have hbb := hb.trans (hb1.mono hb.size)
      clear hcall hr
      cases hp : p j
      · have HJ : Hid (∀ i, i < j + 1 → p i = false) := fun i hi => by
          by_cases e : i = j
          · subst e; exact hp
          · exact HN.out i (by omega)
        clear hp
        go_wp2_with fail
        go_roundw
        case rel => exact ⟨j + 1, by omega, by go_num, hbb, HJ⟩
        case measure => simp [intOf] <;> omega
      · have HJ := Lib.hid (idxN_hit hlt hp HN.out)
        clear hp
        go_wp2_with fail
        go_ret
        exact ⟨ret_int HJ.out.symm, hbb⟩
    · have HJ := Lib.hid (idxN_none (p := p) (n := n) (fun i hi => HN.out i (by omega)))
      have hj' : ¬ (j : Int) < n := by omega
      go_wp2_with fail
      go_ret
      exact ⟨ret_int HJ.out.symm, hb⟩

set_option maxRecDepth 100000 in
set_option maxHeartbeats 4000000 in
theorem again_any (B : Nat) (w0 : World) (G sb g c : Nat) (s : ByteArray) (f : Nat) (hs : List Value) (D : Pth) (t : Nat) (ht : t < D.length) (hD : D.length ≤ 12) (hP : POk D) (hL : ∀ p ∈ D, p.2.1 < 3) (w : World) (hM : SrM B w0 w G sb (.slice (some ⟨g, 0, none⟩) D.length c) s f hs D) :
    Calls Try.prog 157 #[.pointer (some ⟨sb, 0, none⟩), .int .i64 (t : Int)] w fun e w' => e = .returned (.tuple #[.int .i64 (pthF (D.drop t) : Int), .string (txt ((D.drop t).map (·.2.1))), .int .i64 0]) ∧ Below w.heap.size w w' := by
  have hcap : D.length ≤ c := by
    rcases hM.own.2 with ⟨e, _⟩ | ⟨g', cap, cur, e, h1, h2, h3, rest⟩
    · cases e
    · injection e with e1 e2 e3; omega
  have c1 := hM.blk.cell' (i := 1) rfl
  have i1 : (0 : Int) ≤ (t : Int) := by omega
  have i2 : (t : Int) ≤ (D.length : Int) := by omega
  have i3 : (D.length : Int) ≤ (c : Int) := by omega
  have HM := Lib.hid hM
  clear hM
  go_enter Try.func157, Try.ntmps157
  go_wp2_with fail
  go_loopw [7, 8, 18] (fun a b q wr => ∃ j : Nat, t + j ≤ D.length ∧ a = .int .i64 (pthF (seg D t (t + j)) : Int) ∧ b = .string (txt ((seg D t (t + j)).map (·.2.1))) ∧ q = .int .i64 (j : Int) ∧ Below w.heap.size w wr) (fun _ _ q _ => D.length - t - (intOf q).toNat)
  case atStart => exact ⟨0, by omega, by rw [Nat.add_zero, seg_start]; rfl, by rw [Nat.add_zero, seg_start]; rfl, rfl, Below.refl _ _⟩
  case round =>
    obtain ⟨j, hj, rfl, rfl, rfl, hb⟩ := hrel
    by_cases hlt : t + j < D.length
    · have hMw := HM.out.call hb
      obtain ⟨a, c', -, -, hr⟩ := hMw.row (List.getElem?_eq_getElem hlt)
      rw [Nat.add_mul] at hr
      have hx := hL _ (List.getElem_mem hlt)
      have hk := hP _ (List.getElem_mem hlt)
      have HF := Lib.hid (pthF_seg hP hD t (t + j))
      have hf := HF.out
      have HE := Lib.hid (seg_succ D (show t ≤ t + j by omega) hlt)
      have hsl : ((seg D t (t + j)).map (·.2.1)).length ≤ 12 := by have := seg_len D t (t + j); simp only [List.length_map]; omega
      have HS1 : Hid (txt ((seg D t (t + j + 1)).map (·.2.1)) = txt ((seg D t (t + j)).map (·.2.1)) ++ strOfNums [48 + (D[t + j].2.1 : Int)]) := by show _ = _; rw [HE.out, List.map_append, List.map_cons, List.map_nil, txt_snoc]
      have HS2 : Hid (pthF (seg D t (t + j + 1)) = pthF (seg D t (t + j)) * D[t + j].2.2) := by show _ = _; rw [HE.out, pthF_snoc]
      have hts := txt_size ((seg D t (t + j)).map (·.2.1))
      have hov1 : (strOfNums [48 + (D[t + j].2.1 : Int)]).size = 1 := by rw [strOfNums_size]; rfl
      rw [rowS] at hr
      clear HE
      generalize txt ((seg D t (t + j)).map (·.2.1)) = T at *
      generalize ((seg D t (t + j)).map (·.2.1)).length = Tl at *
      generalize pthF (seg D t (t + j)) = F at *
      generalize D[t + j].2.1 = y at *
      generalize D[t + j].2.2 = kj at *
      generalize D[t + j].1.length = gl at *
      have hFk : F * kj ≤ 531441 * 3 := Nat.mul_le_mul hf.2 hk.2
      have e10 : IntKind.i64.wrap ((F : Int) * (kj : Int)) = ((F * kj : Nat) : Int) := by rw [← Int.natCast_mul, IntWalk.i64_in _ (by omega)]
      have e11 : ¬ ((1000000000000 : Int) < ((F * kj : Nat) : Int)) := by omega
      have hov2 : ¬ 9223372036854775807 < T.size + (strOfNums [48 + (y : Int)]).size := by rw [hov1]; omega
      have hov3 : ¬ 9223372036854775807 < T.size + 1 := by omega
      have hbb : Hid (∀ o1 o2, Below w.heap.size w ((wr.alloc o1).alloc o2)) := fun o1 o2 => (hb.alloc hb.size _).alloc (by have := hb.size; simp; omega) _
      have hcv : ∀ o, (convert 106 9 (.slice (some ⟨wr.heap.size + 1, 0, none⟩) 1 1)).run Try.prog ((wr.alloc o).alloc (.cells #[.int .u8 (48 + (y : Int))] 5)) = .ok (.string (strOfNums [48 + (y : Int)])) ((wr.alloc o).alloc (.cells #[.int .u8 (48 + (y : Int))] 5)) := fun o => by
        have hk := Blk.new (wr.alloc o) #[.int .u8 (48 + (y : Int))] 5
        rw [World.size_alloc] at hk
        exact run_convert_bytes_arg _ 106 5 Try.underlying106 Try.underlying5 _ 0 1 1 [48 + (y : Int)] rfl (fun i hi => by obtain rfl : i = 0 := (by simpa using hi); exact hk.cell' rfl) 9 Try.underlying9
      have j1 : (0 : Int) ≤ (j : Int) := by omega
      have j2 : (j : Int) < ((D.length - t : Nat) : Int) := by omega
      have j3 : (y : Int) < 3 := by omega
      have hI3 : (Try.prog.info? 140).map (·.size) = some [Value.slice a gl c', .int .i64 (y : Int), .int .i64 (kj : Int)].length := infoS3
      have HI3 := Lib.hid hI3
      clear hMw hb hI3
      go_wp2_with (first | ((with_reducible refine ld_row ?_ 140 (.tmp 20) ?_ g (t * 3 + j * 3) ?_ [.slice a gl c', .int .i64 (y : Int), .int .i64 (kj : Int)] (.struct _) hr Try.underlying140 ?_ HI3.out ?_); exact rfl; exact rfl; exact rfl; exact rfl) | (go_at_call 162; refine (letter_any _ (by omega) (by omega) _).mono ?_; rintro e w' ⟨rfl, rfl⟩))
      go_roundw
      case rel => exact ⟨j + 1, by omega, by rw [show t + (j + 1) = t + j + 1 by omega, HS2.out]; go_num, by rw [show t + (j + 1) = t + j + 1 by omega, HS1.out], by go_num, hbb.out _ _⟩
      case measure => simp [intOf] <;> omega
    · have hj' : t + j = D.length := by omega
      have j1 : ¬ ((j : Int) < ((D.length - t : Nat) : Int)) := by omega
      rw [hj', seg_all]
      go_wp2_with fail
      go_ret3
      exact ⟨rfl, hb⟩
end Go.Proofs.Yteagecoiijhflaa
