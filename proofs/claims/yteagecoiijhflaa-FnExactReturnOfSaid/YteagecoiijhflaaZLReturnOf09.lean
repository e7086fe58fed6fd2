import Derived.Test.YteagecoiijhflaaZLReturnOf07
import Derived.Test.YteagecoiijhflaaZLReturnOf08
import Derived.Test.YteagecoiijhflaaZLReturnOf04
/- What the laws ask of a result that is a slice of slices of numbers. -/
namespace Go.Proofs.Yteagecoiijhflaa
open Go.RowKit
set_option linter.unusedVariables false
set_option linter.unusedSimpArgs false

section
variable {B : Nat} {w0 w : World} {L : List (Nat × List Value × TypeId)} {G : List (Value × TypeId × List Value)}
/-- a call that writes into the row of the slice number i alone -/
theorem Mm.gcall (h : Mm B w0 w L G) (i : Nat) {v : Value} {E : TypeId} {xs ys : List Value} (hi : G[i]? = some (v, E, xs)) {w' : World} (hg : w.grownBy w' v.ownBlock) {n : Nat} (ho : w'.ownsRow B E 1 v n ys) (hn : n = ys.length) : Mm B w0 w' L (G.set i (v, E, ys)) := by
  subst hn
  have hv := mem_of_get hi
  have hblock : ∀ k, k < w.heap.size → v.ownBlock ≠ some k → w'.heap[k]? = w.heap[k]? := fun k hk hne => hg.block k hk (Ne.symm hne)
  have hsym : ∀ x y : Value × TypeId × List Value, (∀ b, x.1.ownBlock = some b → y.1.ownBlock ≠ some b) → ∀ b, y.1.ownBlock = some b → x.1.ownBlock ≠ some b := fun x y h b e e' => h b e' e
  have hmap : (G.set i (v, E, ys)).map (·.1) = G.map (·.1) := by
    rw [List.map_set]
    apply List.ext_getElem?
    intro k
    by_cases hk : k = i
    · subst hk
      have hlt : k < G.length := (List.getElem?_eq_some_iff.1 hi).1
      rw [List.getElem?_set_self (by simpa using hlt), List.getElem?_map, hi]; rfl
    · rw [List.getElem?_set_ne (Ne.symm hk)]
  refine ⟨?_, Nat.le_trans h.size hg.size, fun x hx => ⟨(h.blk x hx).1, (hblock _ (h.blk x hx).2.lt (h.sep _ hv x hx)).trans (h.blk x hx).2⟩, h.dist, fun x hx => ?_, fun x hx y hy => ?_, ?_⟩
  · refine ⟨hg.os.trans h.below.os, hg.tape.trans h.below.tape, hg.output.trans h.below.output, Nat.le_trans h.below.size hg.size, fun k hk => ?_⟩
    have hkw : k < w.heap.size := Nat.lt_of_lt_of_le hk h.size
    exact (hblock k hkw (fun e => by have := (World.ownsRow.lt (h.own _ hv) k e).1; omega)).trans (h.below.block k hk)
  · rcases mem_set_of hx with rfl | ⟨j, hj, hx⟩
    · exact ho
    · have hx' := h.own x (mem_of_get hx)
      refine ⟨hx'.1, ?_⟩
      rcases hx'.2 with hn | ⟨g', cap', cur, hv', h1, h2, rest⟩
      · exact .inl hn
      · have hlt := h.ownlt (mem_of_get hx) (by rw [hv']; rfl : x.1.ownBlock = some g')
        exact .inr ⟨g', cap', cur, hv', h1, (hblock g' hlt (pairwise_get hsym h.gdist hx hi hj g' (by rw [hv']; rfl))).trans h2, rest⟩
  · rcases mem_set_of hx with rfl | ⟨j, hj, hx⟩
    · exact h.sep _ hv y hy
    · exact h.sep x (mem_of_get hx) y hy
  · have hd : (G.map (·.1)).Pairwise (fun x y => ∀ b, x.ownBlock = some b → y.ownBlock ≠ some b) := List.pairwise_map.2 h.gdist
    rw [← hmap] at hd
    exact List.pairwise_map.1 hd
theorem Mm.permL (h : Mm B w0 w L G) {L' : List (Nat × List Value × TypeId)} (hp : L.Perm L') : Mm B w0 w L' G :=
  ⟨h.below, h.size, fun x hx => h.blk x (hp.mem_iff.2 hx), (hp.pairwise_iff (fun h => Ne.symm h)).1 h.dist, h.own, fun x hx y hy => h.sep x hx y (hp.mem_iff.2 hy), h.gdist⟩
theorem Mm.permG (h : Mm B w0 w L G) {G' : List (Value × TypeId × List Value)} (hp : G.Perm G') : Mm B w0 w L G' :=
  ⟨h.below, h.size, h.blk, h.dist, fun x hx => h.own x (hp.mem_iff.2 hx), fun x hx y hy => h.sep x (hp.mem_iff.2 hx) y hy, (hp.pairwise_iff (fun h b e e' => h b e' e)).1 h.gdist⟩
theorem Mm.subG (h : Mm B w0 w L G) {G' : List (Value × TypeId × List Value)} (hs : G'.Sublist G) : Mm B w0 w L G' :=
  ⟨h.below, h.size, h.blk, h.dist, fun x hx => h.own x (hs.subset hx), fun x hx y hy => h.sep x (hs.subset hx) y hy, h.gdist.sublist hs⟩
/-- the same memory, told from later on -/
theorem Mm.since (h : Mm B w0 w L G) : Mm B w w L G := ⟨Below.refl _ _, h.size, h.blk, h.dist, h.own, h.sep, h.gdist⟩
theorem Mm.less (h : Mm B w0 w L G) {C : Nat} (hC : C ≤ B) : Mm C w0 w L G :=
  ⟨h.below.mono hC, Nat.le_trans hC h.size, fun x hx => ⟨Nat.le_trans hC (h.blk x hx).1, (h.blk x hx).2⟩, h.dist, fun x hx => by
    have ho := h.own x hx
    refine ⟨ho.1, ?_⟩
    rcases ho.2 with hn | ⟨g, cap, cur, hv, h1, rest⟩
    · exact .inl hn
    · exact .inr ⟨g, cap, cur, hv, Nat.le_trans hC h1, rest⟩, h.sep, h.gdist⟩
end

/-- the rows of a slice of slices -/
def rowG (rv : List Value) (rows : List (List Int)) : List (Value × TypeId × List Value) := List.zipWith (fun r xs => (r, 2, i64s xs)) rv rows
/-- v is a slice of slices that reads as rows, all in memory from B on that is its own -/
def OwnII (w : World) (B : Nat) (v : Value) (rows : List (List Int)) : Prop := ∃ rv : List Value, rv.length = rows.length ∧ Mm B w w [] ((v, 26, rv) :: rowG rv rows)
/-- v is a slice of slices that reads as rows -/
def SlII (w : World) (v : Value) (rows : List (List Int)) : Prop := ∃ a c, v = .slice a rows.length c ∧ ∀ i, i < rows.length → ∃ b off, a = some ⟨b, off, none⟩ ∧ ∃ a' c', w.cell? ⟨b, off + i, none⟩ = some (.slice a' (rows[i]?.getD []).length c') ∧ IntsAt w a' (rows[i]?.getD [])
theorem SlII.below {w w' : World} {v : Value} {rows : List (List Int)} (h : SlII w v rows) (hb : Below w.heap.size w w') : SlII w' v rows := by
  obtain ⟨a, c, rfl, h⟩ := h
  refine ⟨a, c, rfl, fun i hi => ?_⟩
  obtain ⟨b, off, ha, a', c', hc, hI⟩ := h i hi
  exact ⟨b, off, ha, a', c', (hb.cell (p := ⟨b, off + i, none⟩) (World.block_lt_of_cell? w _ hc)).trans hc, hI.keep hb⟩
theorem rowG_get {rv : List Value} {rows : List (List Int)} (hl : rv.length = rows.length) {i : Nat} (hi : i < rows.length) : (rowG rv rows)[i]? = some (rv[i]?.getD undef, 2, i64s (rows[i]?.getD [])) := by
  simp only [rowG, List.getElem?_zipWith]
  rw [List.getElem?_eq_getElem (by omega : i < rv.length), List.getElem?_eq_getElem hi]
  rfl
theorem OwnI.of_row {w : World} {B : Nat} {v : Value} {xs : List Int} (h : w.ownsRow B 2 1 v (i64s xs).length (i64s xs)) : OwnI w B v xs := by simpa [OwnI, i64s] using h
theorem OwnII.row {w : World} {B : Nat} {v : Value} {rv : List Value} {rows : List (List Int)} (hl : rv.length = rows.length) (h : Mm B w w [] ((v, 26, rv) :: rowG rv rows)) {i : Nat} (hi : i < rows.length) : OwnI w B (rv[i]?.getD undef) (rows[i]?.getD []) :=
  OwnI.of_row (h.own _ (List.mem_cons_of_mem _ (mem_of_get (rowG_get hl hi))))
theorem OwnII.sl {w : World} {B : Nat} {v : Value} {rows : List (List Int)} (h : OwnII w B v rows) : SlII w v rows := by
  obtain ⟨rv, hl, hM⟩ := h
  have ho := hM.own _ (List.mem_cons_self ..)
  simp only at ho
  rcases ho.2 with ⟨rfl, h0⟩ | ⟨g, cap, cur, rfl, h1, hg, h2, h3, h4, h5⟩
  · exact ⟨none, 0, by rw [← hl, h0], fun i hi => by omega⟩
  · refine ⟨some ⟨g, 0, none⟩, cap, by rw [hl], fun i hi => ⟨g, 0, rfl, ?_⟩⟩
    obtain ⟨a', c', e, hI⟩ := (OwnII.row hl hM hi).form
    refine ⟨a', c', ?_, hI⟩
    rw [Nat.zero_add, World.ownsRow.cellAt ho i (by omega), List.getElem?_eq_getElem (by omega : i < rv.length)]
    rw [List.getElem?_eq_getElem (by omega : i < rv.length)] at e
    exact congrArg some e
theorem OwnII.below {w w' : World} {B : Nat} {v : Value} {rows : List (List Int)} (h : OwnII w B v rows) (hb : Below w.heap.size w w') : OwnII w' B v rows := by
  obtain ⟨rv, hl, hM⟩ := h
  exact ⟨rv, hl, (hM.call hb).since⟩
theorem OwnII.less {w : World} {B C : Nat} {v : Value} {rows : List (List Int)} (h : OwnII w B v rows) (hC : C ≤ B) : OwnII w C v rows := by
  obtain ⟨rv, hl, hM⟩ := h
  exact ⟨rv, hl, hM.less hC⟩
theorem OwnII.nil (w : World) (B : Nat) (hB : B ≤ w.heap.size) : OwnII w B (.slice none 0 0) [] :=
  ⟨[], rfl, ⟨Below.refl _ _, hB, fun _ h => (by cases h), List.Pairwise.nil, fun x hx => by rw [List.mem_singleton.1 (show x ∈ [_] from hx)]; exact World.ownsRow_nil _ _ _ _, fun _ _ _ h => (by cases h), List.pairwise_singleton _ _⟩⟩

set_option maxHeartbeats 1000000 in
theorem eqIQ_same (a b : Option Addr) (c d : Nat) (xs : List Int) (hx : xs.length ≤ 2000000) (w : World) (ha : IntsAt w a xs) (hb : IntsAt w b xs) :
    Calls Try.prog 20 #[.slice a xs.length c, .slice b xs.length d] w (RetQ (.bool true) w) := by
  have HA := Lib.hid ha
  have HB := Lib.hid hb
  clear ha hb
  go_enter Try.func20, Try.ntmps20
  go_wp2
  go_loopw [5] (fun i wr => ∃ k : Nat, k ≤ xs.length ∧ i = .int .i64 k ∧ Hid (∃ n, wr = w.drewN n)) (fun i _ => xs.length - (intOf i).toNat)
  case atStart => exact ⟨0, Nat.zero_le _, rfl, 0, rfl⟩
  case round =>
    obtain ⟨k, hk, rfl, HW⟩ := hrel
    by_cases hlt : k < xs.length
    · obtain ⟨g, off, rfl, hc⟩ := HA.out k hlt
      obtain ⟨g', off', rfl, hc'⟩ := HB.out k hlt
      have hcell : ∀ a, wr.cell? a = w.cell? a := fun a => by obtain ⟨n, hn⟩ := HW.out; rw [hn]; rfl
      rw [← hcell] at hc hc'
      clear hcell
      have i1 : (0 : Int) ≤ (k : Int) := by omega
      have i2 : (k : Int) < (xs.length : Int) := by omega
      generalize xs[k]?.getD 0 = x at *
      go_wp2
      go_quiet (fail)
      go_wp2
      go_roundw
      case rel => exact ⟨k + 1, by omega, by go_num, by obtain ⟨n, hn⟩ := HW.out; rw [hn]; exact dN2 _ _ _⟩
      case measure => simp [intOf] <;> omega
    · go_wp2
      go_ret
      exact ⟨rfl, HW.out⟩

set_option maxHeartbeats 1000000 in
theorem eqII_same (a b : Value) (rows : List (List Int)) (hn : rows.length ≤ 2000000) (hx : ∀ i : Nat, (rows[i]?.getD []).length ≤ 2000000) (w : World) (ha : SlII w a rows) (hb : SlII w b rows) :
    Calls Try.prog 27 #[a, b] w (RetQ (.bool true) w) := by
  obtain ⟨a, c, rfl, hA⟩ := ha
  obtain ⟨b, d, rfl, hB⟩ := hb
  have HA := Lib.hid hA
  have HB := Lib.hid hB
  have HX := Lib.hid hx
  clear hA hB hx
  go_enter Try.func27, Try.ntmps27
  go_wp2
  go_loopw [5] (fun i wr => ∃ k : Nat, k ≤ rows.length ∧ i = .int .i64 k ∧ Hid (∃ n, wr = w.drewN n)) (fun i _ => rows.length - (intOf i).toNat)
  case atStart => exact ⟨0, Nat.zero_le _, rfl, 0, rfl⟩
  case round =>
    obtain ⟨k, hk, rfl, HW⟩ := hrel
    by_cases hlt : k < rows.length
    · obtain ⟨g, off, rfl, a1, c1, hc, hI⟩ := HA.out k hlt
      obtain ⟨g', off', rfl, a2, c2, hc', hI'⟩ := HB.out k hlt
      have HE : Hid (∀ n, Calls Try.prog 20 #[.slice a1 (rows[k]?.getD []).length c1, .slice a2 (rows[k]?.getD []).length c2] (wr.drewN n) (RetQ (.bool true) (wr.drewN n))) := fun n => by
        obtain ⟨m, hm⟩ := HW.out
        rw [hm]
        exact eqIQ_same a1 a2 c1 c2 _ (HX.out k) _ hI hI'
      have hcell : ∀ a, wr.cell? a = w.cell? a := fun a => by obtain ⟨n, hn⟩ := HW.out; rw [hn]; rfl
      rw [← hcell] at hc hc'
      clear hcell hI hI'
      have i1 : (0 : Int) ≤ (k : Int) := by omega
      have i2 : (k : Int) < (rows.length : Int) := by omega
      generalize (rows[k]?.getD []).length = len at *
      go_wp2_with fail
      go_quiet ((go_at_call 20; exact Calls.quiet_of (HE.out _)))
      go_wp2_with fail
      go_roundw
      case rel => exact ⟨k + 1, by omega, by go_num, by obtain ⟨n, hn⟩ := HW.out; rw [hn]; exact dN2 _ _ _⟩
      case measure => simp [intOf] <;> omega
    · go_wp2_with fail
      go_ret
      exact ⟨rfl, HW.out⟩

/-- how many numbers there are in the first i rows -/
def sumLen (rows : List (List Int)) (i : Nat) : Nat := ((rows.take i).map List.length).sum
theorem sumLen_succ (rows : List (List Int)) (i : Nat) (h : i < rows.length) : sumLen rows (i + 1) = sumLen rows i + (rows[i]?.getD []).length := by
  simp only [sumLen]
  rw [List.take_succ_eq_append_getElem h, List.map_append, List.sum_append, List.getElem?_eq_getElem h]
  simp
theorem sumLen_le (rows : List (List Int)) (i : Nat) : sumLen rows i ≤ sumLen rows rows.length := by
  simp only [sumLen, List.take_length]
  have h := List.take_append_drop i rows
  conv => rhs; rw [← h, List.map_append, List.sum_append]
  omega
/-- the rows marked, from k on: i rows done -/
def mixII (k i : Nat) (rows : List (List Int)) : List (List Int) := (List.range rows.length).map fun j => if j < i then marks (k + sumLen rows j) (rows[j]?.getD []).length else rows[j]?.getD []
theorem mixII_len (k i : Nat) (rows : List (List Int)) : (mixII k i rows).length = rows.length := by simp [mixII]
theorem mixII_get (k i : Nat) (rows : List (List Int)) {j : Nat} (h : j < rows.length) : (mixII k i rows)[j]?.getD [] = if j < i then marks (k + sumLen rows j) (rows[j]?.getD []).length else rows[j]?.getD [] := by
  simp [mixII, h]
theorem mixII_zero (k : Nat) (rows : List (List Int)) : mixII k 0 rows = rows := by
  apply List.ext_getElem
  · rw [mixII_len]
  · intro j h1 h2
    simp [mixII, h2]
theorem mixII_set (k i : Nat) (rows : List (List Int)) (h : i < rows.length) : (mixII k i rows).set i (marks (k + sumLen rows i) (rows[i]?.getD []).length) = mixII k (i + 1) rows := by
  apply List.ext_getElem
  · simp [mixII_len]
  · intro j h1 h2
    rw [List.getElem_set]
    simp only [mixII, List.getElem_map, List.getElem_range]
    by_cases e : i = j
    · subst e; rw [if_pos rfl, if_pos (by omega)]
    · rw [if_neg e]
      by_cases h3 : j < i
      · rw [if_pos h3, if_pos (by omega)]
      · rw [if_neg h3, if_neg (by omega)]
theorem rowG_set (rv : List Value) (rows : List (List Int)) (i : Nat) (xs : List Int) (hl : rv.length = rows.length) (hi : i < rows.length) : (rowG rv rows).set i (rv[i]?.getD undef, 2, i64s xs) = rowG rv (rows.set i xs) := by
  apply List.ext_getElem?
  intro j
  by_cases e : j = i
  · subst e
    rw [List.getElem?_set_self (by simp [rowG]; omega), rowG_get (by simpa using hl) (by simpa using hi), List.getElem?_set_self hi]
    rfl
  · rw [List.getElem?_set_ne (Ne.symm e)]
    simp only [rowG, List.getElem?_zipWith, List.getElem?_set_ne (Ne.symm e)]

set_option maxHeartbeats 1000000 in
theorem markI2_any (B : Nat) (v : Value) (xs : List Int) (k : Nat) (hx : xs.length ≤ 1000000) (hk : k ≤ 1000000) (w : World) (h : OwnI w B v xs) :
    Calls Try.prog 21 #[v, .int .i64 (k : Int)] w fun e w' => e = .returned (.int .i64 ((k + xs.length : Nat) : Int)) ∧ w.grownBy w' v.ownBlock ∧ OwnI w' B v (marks k xs.length) := by
  obtain ⟨a, c, rfl, -⟩ := h.form
  have H0 : Hid (OwnI w B (.slice a xs.length c) (mixM k 0 xs)) := by
    show OwnI _ _ _ _
    simpa [mixM, marks] using h
  clear h
  go_enter Try.func21, Try.ntmps21
  go_wp2
  go_loopw [1, 5] (fun u i wr => ∃ j : Nat, j ≤ xs.length ∧ i = .int .i64 j ∧ u = .int .i64 ((k + j : Nat) : Int) ∧ Hid (w.grownBy wr (Value.slice a xs.length c).ownBlock) ∧ Hid (OwnI wr B (.slice a xs.length c) (mixM k j xs))) (fun _ i _ => xs.length - (intOf i).toNat)
  case atStart => exact ⟨0, Nat.zero_le _, rfl, rfl, ⟨rfl, rfl, rfl, Nat.le_refl _, fun _ _ _ => rfl⟩, H0⟩
  case round =>
    clear H0
    obtain ⟨j, hj, rfl, rfl, HG, HO⟩ := hrel
    by_cases hlt : j < xs.length
    · have hO := HO.out
      have hlen := mixM_length k j xs hj
      obtain ⟨g, rfl, hgB⟩ : ∃ g, a = some ⟨g, 0, none⟩ ∧ B ≤ g := by
        rcases hO.2 with ⟨_, e⟩ | ⟨g, cap, cur, hv, h1, rest⟩
        · omega
        · simp at hv; exact ⟨g, hv.1, h1⟩
      have hO' : wr.ownsRow B 2 1 (.slice (some ⟨g, 0, none⟩) xs.length c) xs.length (i64s (mixM k j xs)) := by
        have := hO; rw [OwnI, hlen] at this; exact this
      have hcell := hO'.cellAt j (by omega)
      rw [i64s_get (by omega)] at hcell
      have hfz := hO'.frozenAt j
      have hset : Hid (OwnI (wr.setCell ⟨g, j, none⟩ (.int .i64 ((k + j : Nat) : Int))) B (.slice (some ⟨g, 0, none⟩) xs.length c) (mixM k (j + 1) xs)) := by
        have := (hO'.stored j (.int .i64 ((k + j : Nat) : Int))).1
        rw [mixM_succ k j xs hlt] at this
        show World.ownsRow _ _ _ _ _ _ _
        rw [mixM_length k (j + 1) xs hlt]
        exact this
      have HG2 : Hid (w.grownBy (wr.setCell ⟨g, j, none⟩ (.int .i64 ((k + j : Nat) : Int))) (Value.slice (some ⟨g, 0, none⟩) xs.length c).ownBlock) := by
        have hg := HG.out
        refine ⟨hg.os, hg.tape, hg.output, by have := hg.size; simpa [World.setCell] using this, fun b hb hne => ?_⟩
        have : b ≠ g := fun e => hne (by rw [e]; rfl)
        exact (heap_setCell_other wr ⟨g, j, none⟩ b _ this).trans (hg.block b hb hne)
      have i1 : (0 : Int) ≤ (j : Int) := by omega
      have i2 : (j : Int) < (xs.length : Int) := by omega
      obtain ⟨z, hz⟩ : ∃ z, (mixM k j xs)[j]?.getD 0 = z := ⟨_, rfl⟩
      rw [hz] at hcell
      clear hz hO hO' hlen
      go_wp2
      go_roundw
      case rel => exact ⟨j + 1, by omega, by go_num, by go_num, HG2, hset⟩
      case measure => simp [intOf]; omega
    · have hj' : j = xs.length := by omega
      subst hj'
      rw [mixM_all] at HO
      go_wp2
      go_ret
      exact ⟨rfl, HG.out, HO.out⟩

set_option maxHeartbeats 1000000 in
theorem markII_any (B : Nat) (v : Value) (rows : List (List Int)) (k : Nat) (hn : rows.length ≤ 500000) (hs : sumLen rows rows.length ≤ 500000) (hk : k ≤ 100) (w : World) (h : OwnII w B v rows) :
    Calls Try.prog 38 #[v, .int .i64 (k : Int)] w fun e w' => e = .returned (.int .i64 ((k + sumLen rows rows.length : Nat) : Int)) ∧ Below B w w' ∧ OwnII w' B v (mixII k rows.length rows) := by
  obtain ⟨a, c, rfl, -⟩ := h.sl
  obtain ⟨rv, hl, hM⟩ := h
  have H0 : Hid (Mm B w w [] ((.slice a rows.length c, 26, rv) :: rowG rv (mixII k 0 rows))) := by rw [mixII_zero]; exact hM
  clear hM
  go_enter Try.func38, Try.ntmps38
  go_wp2_with fail
  go_loopw [1, 5] (fun u i wr => ∃ j : Nat, j ≤ rows.length ∧ i = .int .i64 j ∧ u = .int .i64 ((k + sumLen rows j : Nat) : Int) ∧ Hid (Mm B w wr [] ((.slice a rows.length c, 26, rv) :: rowG rv (mixII k j rows)))) (fun _ i _ => rows.length - (intOf i).toNat)
  case atStart => exact ⟨0, Nat.zero_le _, rfl, rfl, H0⟩
  case round =>
    clear H0
    obtain ⟨j, hj, rfl, rfl, HM⟩ := hrel
    by_cases hlt : j < rows.length
    · have hlm := mixII_len k j rows
      have ho := HM.out.own _ (List.mem_cons_self ..)
      simp only at ho
      obtain ⟨g, rfl⟩ : ∃ g, a = some ⟨g, 0, none⟩ := by
        rcases ho.2 with ⟨_, e⟩ | ⟨g, cap, cur, hv, h1, rest⟩
        · omega
        · simp at hv; exact ⟨g, hv.1⟩
      rw [hl] at ho
      have hcell := World.ownsRow.cellAt ho j (by omega)
      have hrow := rowG_get (rv := rv) (rows := mixII k j rows) (by rw [hlm]; exact hl) (i := j) (by rw [hlm]; exact hlt)
      rw [mixII_get k j rows hlt, if_neg (by omega)] at hrow
      have hown : OwnI wr B (rv[j]?.getD undef) (rows[j]?.getD []) := OwnI.of_row (HM.out.own _ (List.mem_cons_of_mem _ (mem_of_get hrow)))
      have hcell' : wr.cell? ⟨g, j, none⟩ = some (rv[j]?.getD undef) := by rw [hcell, List.getElem?_eq_getElem (by omega : j < rv.length)]; rfl
      obtain ⟨a', c', e, -⟩ := id hown.form
      have hss := sumLen_succ rows j hlt
      have hsl := sumLen_le rows (j + 1)
      have HSTEP : Hid (∀ w', wr.grownBy w' (rv[j]?.getD undef).ownBlock → OwnI w' B (rv[j]?.getD undef) (marks (k + sumLen rows j) (rows[j]?.getD []).length) → Mm B w w' [] ((.slice (some ⟨g, 0, none⟩) rows.length c, 26, rv) :: rowG rv (mixII k (j + 1) rows))) := fun w' hg ho' => by
        have h1 := HM.out.gcall (j + 1) (by rw [List.getElem?_cons_succ]; exact hrow) hg (n := (i64s (marks (k + sumLen rows j) (rows[j]?.getD []).length)).length) (ys := i64s (marks (k + sumLen rows j) (rows[j]?.getD []).length)) (by simpa [OwnI, i64s] using ho') rfl
        rw [List.set_cons_succ, rowG_set rv (mixII k j rows) j _ (by rw [hlm]; exact hl) (by rw [hlm]; exact hlt), mixII_set k j rows hlt] at h1
        exact h1
      have HOWN := Lib.hid hown
      have i1 : (0 : Int) ≤ (j : Int) := by omega
      have i2 : (j : Int) < (rows.length : Int) := by omega
      have HSS := Lib.hid hss
      have hlen : (rows[j]?.getD []).length ≤ 500000 := by omega
      have hacc : k + sumLen rows j ≤ 1000000 := by omega
      clear hown ho hcell hrow HM hss hsl
      generalize rv[j]?.getD undef = r at *
      generalize rows[j]?.getD [] = xs at *
      subst e
      go_wp2_with fail
      refine (markI2_any B _ xs (k + sumLen rows j) (by omega) hacc _ HOWN.out).mono ?_
      rintro e w1 ⟨rfl, hg, ho'⟩
      have HM1 := Lib.hid (HSTEP.out w1 hg ho')
      clear hg ho' hcell'
      go_wp2_with fail
      go_roundw
      case rel => exact ⟨j + 1, by omega, by go_num, by rw [HSS.out]; exact vint (by omega), HM1⟩
      case measure => simp [intOf] <;> omega
    · have hj' : j = rows.length := by omega
      subst hj'
      go_wp2_with fail
      go_ret
      exact ⟨rfl, HM.out.below, rv, by rw [mixII_len]; exact hl, HM.out.since⟩

set_option maxHeartbeats 1000000 in
theorem heldII_any (B : Nat) (v : Value) (rows : List (List Int)) (k : Nat) (hn : rows.length ≤ 500000) (hs : sumLen rows rows.length ≤ 500000) (hk : k ≤ 100) (w : World) (h : OwnII w B v (mixII k rows.length rows)) :
    Calls Try.prog 39 #[v, .int .i64 (k : Int)] w (Ret (.int .i64 ((k + sumLen rows rows.length : Nat) : Int)) w) := by
  obtain ⟨a, c, rfl, -⟩ := h.sl
  rw [mixII_len]
  obtain ⟨rv, hl, hM⟩ := h
  rw [mixII_len] at hl hM
  have HM := Lib.hid hM
  clear hM
  go_enter Try.func39, Try.ntmps39
  go_wp2_with fail
  go_loopw [1, 5] (fun u i wr => ∃ j : Nat, j ≤ rows.length ∧ i = .int .i64 j ∧ u = .int .i64 ((k + sumLen rows j : Nat) : Int) ∧ Below w.heap.size w wr) (fun _ i _ => rows.length - (intOf i).toNat)
  case atStart => exact ⟨0, Nat.zero_le _, rfl, rfl, Below.refl _ _⟩
  case round =>
    obtain ⟨j, hj, rfl, rfl, hb⟩ := hrel
    by_cases hlt : j < rows.length
    · have hlm := mixII_len k rows.length rows
      have hM := (HM.out.call hb)
      have ho := hM.own _ (List.mem_cons_self ..)
      simp only at ho
      obtain ⟨g, rfl⟩ : ∃ g, a = some ⟨g, 0, none⟩ := by
        rcases ho.2 with ⟨_, e⟩ | ⟨g, cap, cur, hv, h1, rest⟩
        · omega
        · simp at hv; exact ⟨g, hv.1⟩
      rw [hl] at ho
      have hcell := World.ownsRow.cellAt ho j (by omega)
      have hrow := rowG_get (rv := rv) (rows := mixII k rows.length rows) (by rw [hlm]; exact hl) (i := j) (by rw [hlm]; exact hlt)
      rw [mixII_get k rows.length rows hlt, if_pos hlt] at hrow
      have hown : OwnI wr B (rv[j]?.getD undef) (marks (k + sumLen rows j) (rows[j]?.getD []).length) := OwnI.of_row (hM.own _ (List.mem_cons_of_mem _ (mem_of_get hrow)))
      have hcell' : wr.cell? ⟨g, j, none⟩ = some (rv[j]?.getD undef) := by rw [hcell, List.getElem?_eq_getElem (by omega : j < rv.length)]; rfl
      obtain ⟨a', c', e, -⟩ := id hown.form
      have hss := sumLen_succ rows j hlt
      have hsl := sumLen_le rows (j + 1)
      have HOWN := Lib.hid hown
      have i1 : (0 : Int) ≤ (j : Int) := by omega
      have i2 : (j : Int) < (rows.length : Int) := by omega
      have HSS := Lib.hid hss
      have hlen : (rows[j]?.getD []).length ≤ 500000 := by omega
      have hacc : k + sumLen rows j ≤ 1000000 := by omega
      clear hown ho hcell hrow hM hss hsl
      generalize rv[j]?.getD undef = r at *
      generalize (rows[j]?.getD []).length = len at *
      rw [marks_length] at e
      subst e
      go_wp2_with fail
      refine (heldI_any B _ (k + sumLen rows j) len (by omega) hacc _ HOWN.out).mono ?_
      rintro e w1 ⟨rfl, hb1⟩
      have hbb := hb.trans (hb1.mono hb.size)
      clear hcell'
      go_wp2_with fail
      go_roundw
      case rel => exact ⟨j + 1, by omega, by go_num, by rw [HSS.out]; exact vint (by omega), hbb⟩
      case measure => simp [intOf] <;> omega
    · have hj' : j = rows.length := by omega
      subst hj'
      go_wp2_with fail
      go_ret
      exact ⟨rfl, hb⟩

/-- it returns a slice of slices of its own and a code -/
def RetII (rows : List (List Int)) (c : Int) (w : World) (e : Ending) (w' : World) : Prop := ∃ v, e = .returned (.tuple #[v, .int .i64 c]) ∧ Below w.heap.size w w' ∧ OwnII w' w.heap.size v rows
section
variable {B : Nat} {w0 w : World} {v : Value} {rv : List Value} {rows : List (List Int)}
theorem rowG_snoc (r : Value) (xs : List Int) (hl : rv.length = rows.length) : rowG (rv ++ [r]) (rows ++ [xs]) = rowG rv rows ++ [(r, 2, i64s xs)] := by
  simp only [rowG]
  rw [List.zipWith_append hl]
  rfl
/-- a new row of its own -/
theorem Mm.rowNew (h : Mm B w0 w [] ((v, 26, rv) :: rowG rv rows)) (xs : List Int) (hx : xs.length ≤ 1000000) (cs : Array Value) (hcs : cs.toList = i64s xs) :
    Mm B w0 (w.alloc (.cells cs 2)) [] ((.slice (some ⟨w.heap.size, 0, none⟩) xs.length xs.length, 2, i64s xs) :: (v, 26, rv) :: rowG rv rows) := by
  have h1 := h.alloc cs 2
  rw [hcs] at h1
  have h2 := h1.addOwn (b := w.heap.size) (cs := i64s xs) (T := 2) (by simp) xs.length (by simp [i64s]) (by omega)
  simpa using h2
/-- .. that has been appended -/
theorem Mm.rowPut {v' r : Value} {xs : List Int} (h : Mm B w0 w [] ((r, 2, i64s xs) :: (v', 26, rv ++ [r]) :: rowG rv rows)) (hl : rv.length = rows.length) : Mm B w0 w [] ((v', 26, rv ++ [r]) :: rowG (rv ++ [r]) (rows ++ [xs])) := by
  rw [rowG_snoc r xs hl]
  exact h.permG ((List.Perm.swap _ _ _).trans (List.Perm.cons _ (List.perm_append_singleton _ _).symm))
theorem OwnII.of (h : Mm B w0 w [] ((v, 26, rv) :: rowG rv rows)) (hl : rv.length = rows.length) : OwnII w B v rows := ⟨rv, hl, h.since⟩
end

end Go.Proofs.Yteagecoiijhflaa

/- The program's group: apply, normal, at, leaves. -/
namespace Go.Proofs.Yteagecoiijhflaa
open Go.RowKit
set_option linter.unusedVariables false
set_option linter.unusedSimpArgs false

theorem on_any (b o : Nat) (m : Mch) (hwf : m.Wf) (hok : m.Ok) (q x : Nat) (hq : q < m.s) (hx : x < m.l) (w : World) (hm : MAt w b o m) :
    Calls Try.prog 133 #[.pointer (some ⟨b, o, none⟩), .int .i64 (q : Int), .int .i64 (x : Int)] w fun e w' => e = .returned (.int .i64 (m.on q x : Int)) ∧ w' = w := by
  have h3 := hok.l_le
  have h16 := hok.s_le
  have := out_any b o m hwf q x (by omega) (by omega) w hm
  rw [Int.toNat_natCast, Int.toNat_natCast, hok.o_eq hwf hq hx] at this
  exact this.mono fun e w' h => ⟨h.1, h.2.symm⟩
theorem nn_any (b o : Nat) (m : Mch) (hwf : m.Wf) (hok : m.Ok) (q x : Nat) (hq : q < m.s) (hx : x < m.l) (w : World) (hm : MAt w b o m) :
    Calls Try.prog 132 #[.pointer (some ⟨b, o, none⟩), .int .i64 (q : Int), .int .i64 (x : Int)] w fun e w' => e = .returned (.int .i64 (m.nn q x : Int)) ∧ w' = w := by
  have h3 := hok.l_le
  have h16 := hok.s_le
  have := next_any b o m hwf q x (by omega) (by omega) w hm
  rw [Int.toNat_natCast, Int.toNat_natCast, hok.n_eq hwf hq hx] at this
  exact this.mono fun e w' h => ⟨h.1, h.2.symm⟩

set_option maxRecDepth 100000 in
set_option maxHeartbeats 1000000 in
theorem apply_any (G : Nat) (m : Mch) (hwf : m.Wf) (hok : m.Ok) (k : Int) (hk : k ≠ 0 ∧ -(m.s : Int) ≤ k ∧ k ≤ m.s) (x : Nat) (hx : x < m.l) (w : World) (hG : GrpR w G m) :
    Calls Try.prog 128 #[.pointer (some ⟨G, 0, none⟩), .int .i64 k, .int .i64 (x : Int)] w (RetQ (.tuple #[.int .i64 (stpX m k x), .int .i64 (stpK m k x)]) w) := by
  have h16 := hok.s_le
  have hq := stN_lt hk
  by_cases h0 : 0 < k
  · obtain ⟨j, hj⟩ : ∃ j : Nat, k = (j : Int) + 1 := ⟨(k - 1).toNat, by omega⟩
    have ej : stN k = j := by simp only [stN]; omega
    have HX : Hid (stpX m k x = m.on j x) := by show _ = _; rw [stpX, if_pos h0, ej]
    have HK : Hid (stpK m k x = (m.nn j x : Int) + 1) := by show _ = _; rw [stpK, if_pos h0, ej]
    rw [ej] at hq
    have hn := hok.nn_lt hwf hq hx
    have HO : Hid (∀ n, Calls Try.prog 133 #[.pointer (some ⟨G, 0, none⟩), .int .i64 (j : Int), .int .i64 (x : Int)] (w.drewN n) fun e w' => e = .returned (.int .i64 (m.on j x : Int)) ∧ w' = w.drewN n) := fun n => on_any G 0 m hwf hok j x hq hx _ (hG.mach.drewN n)
    have HN : Hid (∀ n, Calls Try.prog 132 #[.pointer (some ⟨G, 0, none⟩), .int .i64 (j : Int), .int .i64 (x : Int)] (w.drewN n) fun e w' => e = .returned (.int .i64 (m.nn j x : Int)) ∧ w' = w.drewN n) := fun n => nn_any G 0 m hwf hok j x hq hx _ (hG.mach.drewN n)
    rw [HX.out, HK.out]
    subst hj
    clear hk ej HX HK hG
    generalize m.on j x = Y at *
    generalize m.nn j x = Z at *
    have e1 : IntKind.i64.wrap ((j : Int) + 1 - 1) = (j : Int) := by rw [IntWalk.i64_in _ (by omega)]; omega
    have e2 : IntKind.i64.wrap ((Z : Int) + 1) = (Z : Int) + 1 := by rw [IntWalk.i64_in _ (by omega)]
    go_enter Try.func128, Try.ntmps128
    go_wp2_with fail
    go_quiet ((first | (go_at_call 133; exact Calls.quiet_of_same (HO.out _)) | (go_at_call 132; exact Calls.quiet_of_same (HN.out _))))
    go_wp2_with fail
    go_ret2
    exact retQ1 rfl _
  · obtain ⟨j, hj⟩ : ∃ j : Nat, k = -((j : Int) + 1) := ⟨(-k - 1).toNat, by omega⟩
    have ej : stN k = j := by simp only [stN]; omega
    have HX : Hid (stpX m k x = (invM m).on j x) := by show _ = _; rw [stpX, if_neg h0, ej, invM_on hok (by omega) hx]
    have HK : Hid (stpK m k x = -((invM m).nn j x : Int) - 1) := by show _ = _; rw [stpK, if_neg h0, ej, invM_nn hok (by omega) hx]
    rw [ej] at hq
    have hwi := invM_wf hok hwf
    have hoi := invM_ok hok hwf
    have hn := hoi.nn_lt hwi hq hx
    rw [invM_s] at hn
    have HO : Hid (∀ n, Calls Try.prog 133 #[.pointer (some ⟨G, 98, none⟩), .int .i64 (j : Int), .int .i64 (x : Int)] (w.drewN n) fun e w' => e = .returned (.int .i64 ((invM m).on j x : Int)) ∧ w' = w.drewN n) := fun n => on_any G 98 (invM m) hwi hoi j x hq hx _ (hG.back.drewN n)
    have HN : Hid (∀ n, Calls Try.prog 132 #[.pointer (some ⟨G, 98, none⟩), .int .i64 (j : Int), .int .i64 (x : Int)] (w.drewN n) fun e w' => e = .returned (.int .i64 ((invM m).nn j x : Int)) ∧ w' = w.drewN n) := fun n => nn_any G 98 (invM m) hwi hoi j x hq hx _ (hG.back.drewN n)
    rw [HX.out, HK.out]
    subst hj
    clear hk ej HX HK hG hwi hoi
    generalize (invM m).on j x = Y at *
    generalize (invM m).nn j x = Z at *
    have e1 : IntKind.i64.wrap (-(-((j : Int) + 1))) = (j : Int) + 1 := by rw [IntWalk.i64_in _ (by omega)]; omega
    have e2 : IntKind.i64.wrap ((j : Int) + 1 - 1) = (j : Int) := by rw [IntWalk.i64_in _ (by omega)]; omega
    have e3 : IntKind.i64.wrap (-(Z : Int)) = -(Z : Int) := by rw [IntWalk.i64_in _ (by omega)]
    have e4 : IntKind.i64.wrap (-(Z : Int) - 1) = -(Z : Int) - 1 := by rw [IntWalk.i64_in _ (by omega)]
    go_enter Try.func128, Try.ntmps128
    go_wp2_with fail
    go_quiet ((first | (go_at_call 133; exact Calls.quiet_of_same (HO.out _)) | (go_at_call 132; exact Calls.quiet_of_same (HN.out _))))
    go_wp2_with fail
    go_ret2
    exact retQ1 rfl _

/-- a slice of one's own cut shorter -/
theorem ownsRow_cut {w : World} {B E : Nat} {v : Value} {xs : List Value} {n : Nat} (h : w.ownsRow B E 1 v n xs) {g c k : Nat} (hv : v = .slice (some ⟨g, 0, none⟩) n c) (hk : k ≤ n) : w.ownsRow B E 1 (.slice (some ⟨g, 0, none⟩) k c) k (xs.take k) := by
  have hl := h.1
  rcases h.2 with ⟨e, _⟩ | ⟨g', cap, cur, e, h1, h2, h3, h4, h5, h6⟩
  · rw [hv] at e; cases e
  · rw [hv] at e
    injection e with e1 e2 e3
    injection e1 with e1
    injection e1 with e1
    subst e1 e3
    refine ⟨by rw [List.length_take]; omega, .inr ⟨g, c, cur, rfl, h1, h2, by omega, h4, h5, ?_⟩⟩
    rw [← h6, List.take_take]
    congr 1
    omega
theorem own_cap {w : World} {B E : Nat} {v : Value} {xs : List Value} {n : Nat} (h : w.ownsRow B E 1 v n xs) : ∀ a n' c, v = .slice a n' c → n ≤ c := by
  intro a n' c hv
  rcases h.2 with ⟨e, h0⟩ | ⟨g', cap, cur, e, h1, h2, h3, h4, h5, h6⟩
  · omega
  · rw [hv] at e; injection e with e1 e2 e3; omega
theorem Mm.cut {B : Nat} {w0 w : World} {L : List (Nat × List Value × TypeId)} {v : Value} {E : TypeId} {xs : List Value} {G : List (Value × TypeId × List Value)} (h : Mm B w0 w L ((v, E, xs) :: G)) {g c k : Nat} (hv : v = .slice (some ⟨g, 0, none⟩) xs.length c) (hk : k ≤ xs.length) :
    Mm B w0 w L ((.slice (some ⟨g, 0, none⟩) k c, E, xs.take k) :: G) := by
  have ho := h.own _ (List.mem_cons_self ..)
  have hc := ownsRow_cut ho hv hk
  have hgd := List.pairwise_cons.1 h.gdist
  refine ⟨h.below, h.size, h.blk, h.dist, fun x hx => ?_, fun x hx y hy => ?_, List.pairwise_cons.2 ⟨fun y hy b e => ?_, hgd.2⟩⟩
  · rcases List.mem_cons.1 hx with rfl | hx
    · have : (xs.take k).length = k := by rw [List.length_take]; omega
      simp only [this]
      exact hc
    · exact h.own x (List.mem_cons_of_mem _ hx)
  · rcases List.mem_cons.1 hx with rfl | hx
    · have := h.sep _ (List.mem_cons_self ..) y hy
      rw [hv] at this
      exact this
    · exact h.sep x (List.mem_cons_of_mem _ hx) y hy
  · refine hgd.1 y hy b ?_
    rw [hv]; exact e

set_option maxRecDepth 100000 in
set_option maxHeartbeats 4000000 in
theorem normal_any (G : Nat) (m : Mch) (hwf : m.Wf) (hok : m.Ok) (a : Option Addr) (g : Wd) (c : Nat) (hg : GW m g) (hl : g.length ≤ 1000) (w : World) (hG : GrpR w G m) (hI : IntsAt w a g) :
    Calls Try.prog 98 #[.pointer (some ⟨G, 0, none⟩), .slice a g.length c] w fun e w' => ∃ v, e = .returned v ∧ Below w.heap.size w w' ∧ OwnI w' w.heap.size v (nrm m g) := by
  obtain ⟨i0, hi, hz0, hz1, hz2⟩ := info_parts Try.info2
  have h16 := hok.s_le
  obtain ⟨gc, cc, c1, c2⟩ := hG.cls
  obtain ⟨gt, ct, t1, t2⟩ := hG.trv
  have HC1 := Lib.hid c1
  have HC2 := Lib.hid c2
  have HT1 := Lib.hid t1
  have HT2 := Lib.hid t2
  have HI := Lib.hid hI
  have HGW := Lib.hid hg
  have hM0 := (Mm.start w).addNil 2
  clear hG hI c1 c2 t1 t2 hg
  go_enter Try.func98, Try.ntmps98
  go_wp2_with fail
  go_loopw [5, 13] (fun v i wr => ∃ j : Nat, j ≤ g.length ∧ i = .int .i64 j ∧ Mm w.heap.size w wr [] [(v, 2, i64s (nrm m (g.take j)))]) (fun _ i _ => g.length - (intOf i).toNat)
  case atStart => exact ⟨0, Nat.zero_le _, rfl, by simpa [nrm, i64s] using hM0⟩
  case round =>
    clear hM0
    obtain ⟨j, hj, rfl, hM⟩ := hrel
    by_cases hlt : j < g.length
    · have K : ∀ {b i : Nat} {v : Value}, w.cell? ⟨b, i, none⟩ = some v → wr.cell? ⟨b, i, none⟩ = some v := fun h => (hM.below.cell (World.block_lt_of_cell? w _ h)).trans h
      obtain ⟨b, off, rfl, e1⟩ := HI.out j hlt
      have e1 := K e1
      have hk := HGW.out.at hlt
      have hq := stN_lt hk
      have e2 := K HC1.out
      have e3 := K (HC2.out _ hq)
      have e4 := K HT1.out
      have e5 := K (HT2.out _ hq)
      have HN := Lib.hid (nrm_snoc m (g.take j) (g[j]?.getD 0))
      rw [← take_snocI hlt, nstep] at HN
      have hsg : (g[j]?.getD 0 = (stN (g[j]?.getD 0) : Int) + 1 ∧ nkey m (g[j]?.getD 0) = (m.tbl.fin (stN (g[j]?.getD 0)) : Int) + 1) ∨ (g[j]?.getD 0 = -((stN (g[j]?.getD 0) : Int) + 1) ∧ nkey m (g[j]?.getD 0) = -((m.tbl.fin (stN (g[j]?.getD 0)) : Int) + 1)) := by
        simp only [nkey, stN]
        by_cases h : g[j]?.getD 0 < 0
        · rw [if_pos h]; right; exact ⟨by omega, rfl⟩
        · rw [if_neg h]; left; exact ⟨by omega, rfl⟩
      have hnl := nrm_len m (g.take j)
      rw [List.length_take] at hnl
      have hfl := m.tbl.fin_le (stN (g[j]?.getD 0))
      have i1 : (0 : Int) ≤ (j : Int) := by omega
      have i2 : (j : Int) < (g.length : Int) := by omega
      generalize stN (g[j]?.getD 0) = q at *
      generalize nkey m (g[j]?.getD 0) = nk at *
      generalize g[j]?.getD 0 = k at *
      generalize m.tbl.fin q = f at *
      obtain ⟨o, ho⟩ : ∃ o, o = nrm m (g.take j) := ⟨_, rfl⟩
      rw [← ho] at hM HN hnl
      have i3 : (0 : Int) ≤ (q : Int) := by omega
      have i4 : (q : Int) < (m.s : Int) := by omega
      have i5 : (0 : Int) ≤ (f : Int) := by omega
      have i6 : (f : Int) ≤ 16 := by omega
      clear ho K hk
      by_cases ht : trivB m q = true
      · rw [if_pos ht] at HN
        rw [ht] at e5
        clear ht
        rcases hsg with ⟨rfl, rfl⟩ | ⟨rfl, rfl⟩
        all_goals
          go_wp2_with fail
          go_roundw
          case rel => exact ⟨j + 1, by omega, by go_num, by rw [HN.out]; exact hM⟩
          case measure => simp [intOf] <;> omega
      · rw [if_neg ht] at HN
        have ht' : trivB m q = false := by simpa using ht
        rw [ht'] at e5
        clear ht ht'
        by_cases hz : o = []
        · subst hz
          have HS : Hid (nrm m (g.take (j + 1)) = [nk]) := by show _ = _; rw [HN.out, if_neg (by simp)]; rfl
          have hO := hM.own _ (List.mem_cons_self ..)
          obtain ⟨av, cv, rfl⟩ : ∃ av cv, u5 = .slice av 0 cv := by
            rcases hO.2 with ⟨e, _⟩ | ⟨g', cap, cur, e, _⟩
            · exact ⟨_, _, e⟩
            · exact ⟨_, _, e⟩
          clear HN hO
          rcases hsg with ⟨rfl, rfl⟩ | ⟨rfl, rfl⟩
          all_goals
            go_wp2_with (at_builtin; refine Mm.append rfl (.tmp 59) (.tmp 61) 26 rfl hM 0 rfl Try.underlying26 hi hz0 hz1 hz2 rfl rfl rfl rfl (by simp [i64s]) (by omega) ?_)
            intro g' cap' w3 hM3
            have HM3 : Hid (Mm w.heap.size w w3 [] [(.slice (some ⟨g', 0, none⟩) ((i64s []).length + 1) cap', 2, i64s (nrm m (g.take (j + 1))))]) := by
              rw [HS.out]; show Mm _ _ _ _ _; simpa [i64s] using hM3
            clear hM hM3
            go_wp2_with fail
            go_roundw
            case rel => exact ⟨j + 1, by omega, by go_num, HM3.out⟩
            case measure => simp [intOf] <;> omega
        · obtain ⟨o', z, rfl⟩ : ∃ o' z, o = o' ++ [z] := ⟨o.dropLast, o.getLast hz, (List.dropLast_concat_getLast hz).symm⟩
          have hol : o'.length ≤ 1000 := by rw [List.length_append] at hnl; simp at hnl; omega
          have hO := hM.own _ (List.mem_cons_self ..)
          simp only at hO
          have hcap := own_cap hO
          obtain ⟨gv, cv, rfl, -, -, hcl⟩ := own_form hO (by simp [i64s])
          have hcap : o'.length ≤ cv := by have := hcap _ _ _ rfl; simp [i64s] at this; omega
          have hln : (i64s (o' ++ [z])).length = o'.length + 1 := by simp [i64s]
          rw [hln] at hM ⊢
          have e6 := hcl o'.length (.int .i64 z) (by simp [i64s])
          have hzb : (0 : Int) ≤ (o'.length : Int) := by omega
          clear hcl hO hz
          by_cases hc : z = -nk
          · have HS : Hid (nrm m (g.take (j + 1)) = o') := by show _ = _; rw [HN.out, if_pos (by simp [hc]), List.dropLast_concat]
            have hM2 := hM.cut (g := gv) (c := cv) (k := o'.length) (by rw [hln]) (by simp [i64s])
            have HM2 : Hid (Mm w.heap.size w wr [] [(.slice (some ⟨gv, 0, none⟩) o'.length cv, 2, i64s (nrm m (g.take (j + 1))))]) := by
              rw [HS.out]; show Mm _ _ _ _ _; simpa [i64s] using hM2
            clear HN hM hM2 hln
            subst hc
            rcases hsg with ⟨rfl, rfl⟩ | ⟨rfl, rfl⟩
            all_goals
              go_wp2_with fail
              go_roundw
              case rel => exact ⟨j + 1, by omega, by go_num, HM2.out⟩
              case measure => simp [intOf] <;> omega
          · have HS : Hid (nrm m (g.take (j + 1)) = (o' ++ [z]) ++ [nk]) := by show _ = _; rw [HN.out, if_neg (by simpa using hc)]
            have hc1 : (z == -nk) = false := by simpa using hc
            have hil : (i64s (o' ++ [z])).length ≤ 1000000 := by simp [i64s]; omega
            clear HN hln hc
            rcases hsg with ⟨rfl, rfl⟩ | ⟨rfl, rfl⟩
            all_goals
              try simp only [Int.neg_neg] at hc1
              go_wp2_with (at_builtin; refine Mm.append rfl (.tmp 59) (.tmp 61) 26 rfl hM 0 rfl Try.underlying26 hi hz0 hz1 hz2 rfl rfl rfl rfl hil (by omega) ?_)
              intro g' cap' w3 hM3
              have HM3 : Hid (Mm w.heap.size w w3 [] [(.slice (some ⟨g', 0, none⟩) ((i64s (o' ++ [z])).length + 1) cap', 2, i64s (nrm m (g.take (j + 1))))]) := by
                rw [HS.out]; show Mm _ _ _ _ _; simpa [i64s] using hM3
              clear hM hM3
              go_wp2_with fail
              go_roundw
              case rel => exact ⟨j + 1, by omega, by go_num, HM3.out⟩
              case measure => simp [intOf] <;> omega
    · have hj' : j = g.length := by omega
      subst hj'
      rw [List.take_length] at hM
      have ho : Hid (OwnI wr w.heap.size u5 (nrm m g)) := OwnI.of_row (hM.own _ (List.mem_cons_self ..))
      have hb := hM.below
      clear hM
      go_wp2_with fail
      go_ret
      exact ⟨_, rfl, hb, ho.out⟩
end Go.Proofs.Yteagecoiijhflaa

/- The program's group: at, leaves, key. -/
namespace Go.Proofs.Yteagecoiijhflaa
open Go.RowKit
set_option linter.unusedVariables false
set_option linter.unusedSimpArgs false

/-- the section as far as it is made -/
def ldP (m : Mch) (g : Wd) (x j : Nat) : Wd := ledS m (g.take j) x ++ List.replicate (g.length - j) 0
theorem ldP_len (m : Mch) (g : Wd) (x j : Nat) (h : j ≤ g.length) : (ldP m g x j).length = g.length := by simp [ldP, ledS_len]; omega
theorem ldP_zero (m : Mch) (g : Wd) (x : Nat) : ldP m g x 0 = List.replicate g.length 0 := by simp [ldP, ledS]
theorem ldP_all (m : Mch) (g : Wd) (x : Nat) : ldP m g x g.length = ledS m g x := by simp [ldP]
theorem ldP_set (m : Mch) (g : Wd) (x j : Nat) (h : j < g.length) : (i64s (ldP m g x j)).set j (.int .i64 (stpK m (g[j]?.getD 0) (ledX m (g.take j) x))) = i64s (ldP m g x (j + 1)) := by
  have hl : (ledS m (g.take j) x).length = j := by rw [ledS_len, List.length_take]; omega
  simp only [ldP, i64s, take_snocI h, ledS_append, List.map_append]
  rw [List.set_append_right _ _ (by rw [List.length_map, hl]; omega), List.append_assoc]
  congr 1
  rw [List.length_map, hl, Nat.sub_self, show g.length - j = (g.length - (j + 1)) + 1 by omega, List.replicate_succ, List.map_cons, List.set_cons_zero]
  rfl
theorem ledX_take (m : Mch) (g : Wd) (x j : Nat) (h : j < g.length) : ledX m (g.take (j + 1)) x = stpX m (g[j]?.getD 0) (ledX m (g.take j) x) := by
  rw [take_snocI h, ledX_append]; rfl

set_option maxRecDepth 100000 in
set_option maxHeartbeats 4000000 in
theorem at_any (G : Nat) (m : Mch) (hwf : m.Wf) (hok : m.Ok) (a : Option Addr) (g : Wd) (c : Nat) (hg : GW m g) (hl : g.length ≤ 1000) (x : Nat) (hx : x < m.l) (w : World) (hG : GrpR w G m) (hI : IntsAt w a g) :
    Calls Try.prog 96 #[.pointer (some ⟨G, 0, none⟩), .slice a g.length c, .int .i64 (x : Int)] w fun e w' => ∃ v, e = .returned (.tuple #[.int .i64 (ledX m g x : Int), v]) ∧ Below w.heap.size w w' ∧ OwnI w' w.heap.size v (ledS m g x) := by
  have h16 := hok.s_le
  have HG := Lib.hid hG
  have HI := Lib.hid hI
  have HGW := Lib.hid hg
  have hmk := mkI g.length (by omega) w
  have hM0 := (Mm.start w).alloc (madeCells #[.int .i64 0] g.length) 2
  rw [madeI, ← ldP_zero m g x] at hM0
  clear hG hI hg
  go_enter Try.func96, Try.ntmps96
  go_wp2_with fail
  clear hmk
  go_loopw [2, 16] (fun y i wr => ∃ j : Nat, j ≤ g.length ∧ i = .int .i64 j ∧ y = .int .i64 (ledX m (g.take j) x : Int) ∧ Mm w.heap.size w wr [(w.heap.size, i64s (ldP m g x j), 2)] []) (fun _ i _ => g.length - (intOf i).toNat)
  case atStart => exact ⟨0, Nat.zero_le _, rfl, rfl, hM0⟩
  case round =>
    clear hM0
    obtain ⟨j, hj, rfl, rfl, hM⟩ := hrel
    by_cases hlt : j < g.length
    · obtain ⟨b, off, rfl, e1⟩ := HI.out j hlt
      have e1 := (hM.below.cell (World.block_lt_of_cell? w _ e1)).trans e1
      have hk := HGW.out.at hlt
      have hB := hM.at 0 rfl
      have c1 := hB.cell' (i64s_get (xs := ldP m g x j) (i := j) (by rw [ldP_len m g x j (by omega)]; exact hlt))
      have f1 := hB.free j
      have hy : ledX m (g.take j) x < m.l := ledX_lt hok hwf (HGW.out.sub fun k hk => List.mem_of_mem_take hk) hx
      have HSET : Hid (∀ n, Mm w.heap.size w ((wr.drewN n).setCell ⟨w.heap.size, j, none⟩ (.int .i64 (stpK m (g[j]?.getD 0) (ledX m (g.take j) x)))) [(w.heap.size, i64s (ldP m g x (j + 1)), 2)] []) := fun n => by
        have := (hM.drewN n).setCell 0 rfl j (.int .i64 (stpK m (g[j]?.getD 0) (ledX m (g.take j) x)))
        simpa only [List.set_cons_zero, ldP_set m g x j hlt] using this
      have HX := Lib.hid (ledX_take m g x j hlt)
      have HAP := Lib.hid (apply_any G m hwf hok (g[j]?.getD 0) hk (ledX m (g.take j) x) hy wr (HG.out.keep hM.below))
      have i1 : (0 : Int) ≤ (j : Int) := by omega
      have i2 : (j : Int) < (g.length : Int) := by omega
      clear hM hB hk hy
      generalize (ldP m g x j)[j]?.getD 0 = z at *
      generalize g[j]?.getD 0 = k at *
      generalize ledX m (g.take j) x = y at *
      go_wp2_with fail
      refine HAP.out.mono ?_
      rintro e w1 ⟨rfl, n, rfl⟩
      have HS := Lib.hid (HSET.out n)
      clear HSET HAP e1
      go_wp2_with fail
      go_roundw
      case rel => exact ⟨j + 1, by omega, by go_num, by rw [HX.out], HS.out⟩
      case measure => simp [intOf] <;> omega
    · have hj' : j = g.length := by omega
      subst hj'
      rw [ldP_all] at hM
      have hF := Lib.hid (hM.addOwn (List.mem_singleton.2 rfl) g.length (by simp [i64s, ledS_len]) (by omega))
      have HT : Hid (g.take g.length = g) := List.take_length
      clear hM
      go_wp2_with fail
      go_ret2
      rw [HT.out]
      exact ⟨_, rfl, hF.out.below, OwnI.of_row (by simpa [i64s, ledS_len] using hF.out.own _ (List.mem_cons_self ..))⟩
theorem leaves_upto {m : Mch} {g : Wd} {x : Nat} (h : ∀ y, y < x → ledX m g y = y) (hx : x = m.l) : leavesB m g = true := by
  subst hx
  simp only [leavesB, List.all_eq_true, List.mem_range, beq_iff_eq]
  exact h
theorem leaves_not {m : Mch} {g : Wd} {x : Nat} (hx : x < m.l) (h : ledX m g x ≠ x) : leavesB m g = false := by
  rw [leavesB, List.all_eq_false]
  exact ⟨x, by simpa using hx, by simpa using h⟩

set_option maxRecDepth 100000 in
set_option maxHeartbeats 1000000 in
theorem leaves_any (G : Nat) (m : Mch) (hwf : m.Wf) (hok : m.Ok) (a : Option Addr) (g : Wd) (c : Nat) (hg : GW m g) (hl : g.length ≤ 1000) (w : World) (hG : GrpR w G m) (hI : IntsAt w a g) :
    Calls Try.prog 101 #[.pointer (some ⟨G, 0, none⟩), .slice a g.length c] w (Ret (.bool (leavesB m g)) w) := by
  have HG := Lib.hid hG
  have HI := Lib.hid hI
  have cl := hG.mach.l
  rw [hok.L_eq] at cl
  have h3 := hok.l_le
  have HGW := Lib.hid hg
  clear hG hI hg
  go_enter Try.func101, Try.ntmps101
  go_wp2_with fail
  go_loopw [13] (fun i wr => ∃ x : Nat, x ≤ m.l ∧ i = .int .i64 x ∧ Below w.heap.size w wr ∧ Hid (∀ y, y < x → ledX m g y = y)) (fun i _ => m.l - (intOf i).toNat)
  case atStart => exact ⟨0, Nat.zero_le _, rfl, Below.refl _ _, fun y hy => by omega⟩
  case round =>
    clear cl
    obtain ⟨x, hx, rfl, hb, HA⟩ := hrel
    by_cases hlt : x < m.l
    · have HC := Lib.hid (at_any G m hwf hok a g c HGW.out hl x hlt wr (HG.out.keep hb) (HI.out.keep hb))
      have i1 : (x : Int) < (m.l : Int) := by omega
      go_wp2_with fail
      refine HC.out.mono ?_
      rintro e w1 ⟨v, rfl, hb1, -⟩
      have hbb := hb.trans (hb1.mono hb.size)
      by_cases e : ledX m g x = x
      · have HN : Hid (∀ y, y < x + 1 → ledX m g y = y) := fun y hy => by
          by_cases h : y = x
          · subst h; exact e
          · exact HA.out y (by omega)
        rw [e]
        clear e HC
        go_wp2_with fail
        go_roundw
        case rel => exact ⟨x + 1, by omega, by go_num, hbb, HN⟩
        case measure => simp [intOf] <;> omega
      · have HF := Lib.hid (leaves_not hlt e)
        generalize ledX m g x = y at *
        have e' : ((y : Int) != (x : Int)) = true := by simp; omega
        clear e HC
        go_wp2_with fail
        go_ret
        exact ⟨ret_bool HF.out.symm, hbb⟩
    · have HF := Lib.hid (leaves_upto HA.out (by omega))
      go_wp2_with fail
      go_ret
      exact ⟨ret_bool HF.out.symm, hb⟩

/-- the key of a word -/
def keyB (g : Wd) : ByteArray := strOfNums (g.map fun k => k + 100)
theorem keyB_size (g : Wd) : (keyB g).size = g.length := by simp [keyB, strOfNums_size]
theorem keyB_inj {m : Mch} (hok : m.Ok) : ∀ {g h : Wd}, GW m g → GW m h → keyB g = keyB h → g = h := by
  have h16 := hok.s_le
  have key : ∀ {g h : Wd}, GW m g → GW m h → g.map (fun k => UInt8.ofNat (k + 100).toNat) = h.map (fun k => UInt8.ofNat (k + 100).toNat) → g = h := by
    intro g
    induction g with
    | nil => intro h _ _ e; cases h with | nil => rfl | cons y t => simp at e
    | cons x g ih =>
      intro h hg hh e
      cases h with
      | nil => simp at e
      | cons y t =>
        simp only [List.map_cons, List.cons.injEq] at e
        have a := hg x (List.mem_cons_self ..)
        have b := hh y (List.mem_cons_self ..)
        have e1 := congrArg UInt8.toNat e.1
        rw [UInt8.toNat_ofNat', UInt8.toNat_ofNat'] at e1
        have e2 := ih (fun z hz => hg z (List.mem_cons_of_mem _ hz)) (fun z hz => hh z (List.mem_cons_of_mem _ hz)) e.2
        have e3 : x = y := by omega
        rw [e2, e3]
  intro g h hg hh e
  have := congrArg (fun s : ByteArray => s.data.toList) e
  simp only [keyB, strOfNums_data, List.map_map] at this
  exact key hg hh this
def kyP (g : Wd) (j : Nat) : List Int := (g.take j).map (fun k => k + 100) ++ List.replicate (g.length - j) 0
theorem kyP_set (g : Wd) (j : Nat) (h : j < g.length) : (u8s (kyP g j)).set j (.int .u8 (g[j]?.getD 0 + 100)) = u8s (kyP g (j + 1)) := by
  have hl : ((g.take j).map (fun k => k + 100)).length = j := by rw [List.length_map, List.length_take]; omega
  simp only [kyP, u8s, take_snocI h, List.map_append]
  rw [List.set_append_right _ _ (by rw [List.length_map, hl]; omega), List.append_assoc]
  congr 1
  rw [List.length_map, hl, Nat.sub_self, show g.length - j = (g.length - (j + 1)) + 1 by omega, List.replicate_succ, List.map_cons, List.set_cons_zero]
  rfl

set_option maxRecDepth 100000 in
set_option maxHeartbeats 1000000 in
theorem key_any (m : Mch) (hok : m.Ok) (a : Option Addr) (g : Wd) (c : Nat) (hg : GW m g) (hl : g.length ≤ 1000) (w : World) (hI : IntsAt w a g) :
    Calls Try.prog 131 #[.slice a g.length c] w (Ret (.string (keyB g)) w) := by
  have HI := Lib.hid hI
  have HGW := Lib.hid hg
  have h16 := hok.s_le
  have hmk := mk_u8 g.length (by omega) w
  have hM0 := (Mm.start w).alloc (madeCells #[.int .u8 0] g.length) 5
  rw [made_u8, show List.replicate g.length (0 : Int) = kyP g 0 by simp [kyP]] at hM0
  clear hI hg
  go_enter Try.func131, Try.ntmps131
  go_wp2_with fail
  clear hmk
  go_loopw [11] (fun i wr => ∃ j : Nat, j ≤ g.length ∧ i = .int .i64 j ∧ Mm w.heap.size w wr [(w.heap.size, u8s (kyP g j), 5)] []) (fun i _ => g.length - (intOf i).toNat)
  case atStart => exact ⟨0, Nat.zero_le _, rfl, hM0⟩
  case round =>
    clear hM0
    obtain ⟨j, hj, rfl, hM⟩ := hrel
    by_cases hlt : j < g.length
    · obtain ⟨b, off, rfl, e1⟩ := HI.out j hlt
      have e1 := (hM.below.cell (World.block_lt_of_cell? w _ e1)).trans e1
      have hk := HGW.out.at hlt
      have hB := hM.at 0 rfl
      have c1 := hB.cell' (u8s_get (xs := kyP g j) (i := j) (by simp [kyP]; omega))
      have f1 := hB.free j
      have hS := hM.setCell 0 rfl j (.int .u8 (g[j]?.getD 0 + 100))
      simp only [List.set_cons_zero, kyP_set g j hlt] at hS
      have HS := Lib.hid hS
      have i1 : (0 : Int) ≤ (j : Int) := by omega
      have i2 : (j : Int) < (g.length : Int) := by omega
      have i3 := hk.2.1
      have i4 := hk.2.2
      clear hM hB hk hS
      generalize (kyP g j)[j]?.getD 0 = z at *
      generalize g[j]?.getD 0 = k at *
      have i5 : -16 ≤ k := by omega
      have i6 : k ≤ 16 := by omega
      go_wp2_with fail
      go_roundw
      case rel => exact ⟨j + 1, by omega, by go_num, HS.out⟩
      case measure => simp [intOf] <;> omega
    · have hj' : j = g.length := by omega
      subst hj'
      rw [show kyP g g.length = g.map (fun k => k + 100) by simp [kyP]] at hM
      have hcv := run_convert_bytes_arg wr 106 5 Try.underlying106 Try.underlying5 w.heap.size 0 g.length g.length (g.map fun k => k + 100) (by simp) (fun i hi => by
        rw [Nat.zero_add]; exact (hM.at 0 rfl).cell' (u8s_get (by simpa using hi))) 9 Try.underlying9
      have hb := hM.below
      clear hM
      go_wp2_with fail
      go_ret
      exact ⟨rfl, hb⟩
end Go.Proofs.Yteagecoiijhflaa
