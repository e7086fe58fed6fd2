import Derived.Test.YteagecoiijhflaaZLOrderOf05
import Derived.Test.YteagecoiijhflaaZLOrderOf02
import Derived.Test.YteagecoiijhflaaZLOrderOf01
import Derived.Test.YteagecoiijhflaaZLOrderOf03
import Derived.Test.YteagecoiijhflaaZLOrderOf04
import Derived.StillTailTactics
import Derived.IntWalk
/- What the laws ask of a result that is a slice of slices of numbers. -/
namespace Go.Proofs.Yteagecoiijhflaa
open Go.RowKit
set_option linter.unusedVariables false
set_option linter.unusedSimpArgs false

section
variable {B : Nat} {w0 w : World} {L : List (Nat × List Value × TypeId)} {G : List (Value × TypeId × List Value)}
/-- a call that writes into the row of the slice number i alone -/
theorem Mm.gcall (h : Mm B w0 w L G) (i : Nat) {v : Value} {E : TypeId} {xs ys : List Value} (hi : G[i]? = some (v, E, xs)) {w' : World} (hg : w.grownBy w' v.ownBlock) {n : Nat} (ho : w'.ownsRow B E 1 v n ys) (hn : n = ys.length) : Mm B w0 w' L (G.set i (v, E, ys)) := by
  subst hn
  have hv := mem_of_get hi
  have hblock : ∀ k, k < w.heap.size → v.ownBlock ≠ some k → w'.heap[k]? = w.heap[k]? := fun k hk hne => hg.block k hk (Ne.symm hne)
  have hsym : ∀ x y : Value × TypeId × List Value, (∀ b, x.1.ownBlock = some b → y.1.ownBlock ≠ some b) → ∀ b, y.1.ownBlock = some b → x.1.ownBlock ≠ some b := fun x y h b e e' => h b e' e
  have hmap : (G.set i (v, E, ys)).map (·.1) = G.map (·.1) := by
    rw [List.map_set]
    apply List.ext_getElem?
    intro k
    by_cases hk : k = i
    · subst hk
      have hlt : k < G.length := (List.getElem?_eq_some_iff.1 hi).1
      rw [List.getElem?_set_self (by simpa using hlt), List.getElem?_map, hi]; rfl
    · rw [List.getElem?_set_ne (Ne.symm hk)]
  refine ⟨?_, Nat.le_trans h.size hg.size, fun x hx => ⟨(h.blk x hx).1, (hblock _ (h.blk x hx).2.lt (h.sep _ hv x hx)).trans (h.blk x hx).2⟩, h.dist, fun x hx => ?_, fun x hx y hy => ?_, ?_⟩
  · refine ⟨hg.os.trans h.below.os, hg.tape.trans h.below.tape, hg.output.trans h.below.output, Nat.le_trans h.below.size hg.size, fun k hk => ?_⟩
    have hkw : k < w.heap.size := Nat.lt_of_lt_of_le hk h.size
    exact (hblock k hkw (fun e => by have := (World.ownsRow.lt (h.own _ hv) k e).1; omega)).trans (h.below.block k hk)
  · rcases mem_set_of hx with rfl | ⟨j, hj, hx⟩
    · exact ho
    · have hx' := h.own x (mem_of_get hx)
      refine ⟨hx'.1, ?_⟩
      rcases hx'.2 with hn | ⟨g', cap', cur, hv', h1, h2, rest⟩
      · exact .inl hn
      · have hlt := h.ownlt (mem_of_get hx) (by rw [hv']; rfl : x.1.ownBlock = some g')
        exact .inr ⟨g', cap', cur, hv', h1, (hblock g' hlt (pairwise_get hsym h.gdist hx hi hj g' (by rw [hv']; rfl))).trans h2, rest⟩
  · rcases mem_set_of hx with rfl | ⟨j, hj, hx⟩
    · exact h.sep _ hv y hy
    · exact h.sep x (mem_of_get hx) y hy
  · have hd : (G.map (·.1)).Pairwise (fun x y => ∀ b, x.ownBlock = some b → y.ownBlock ≠ some b) := List.pairwise_map.2 h.gdist
    rw [← hmap] at hd
    exact List.pairwise_map.1 hd
theorem Mm.permL (h : Mm B w0 w L G) {L' : List (Nat × List Value × TypeId)} (hp : L.Perm L') : Mm B w0 w L' G :=
  ⟨h.below, h.size, fun x hx => h.blk x (hp.mem_iff.2 hx), (hp.pairwise_iff (fun h => Ne.symm h)).1 h.dist, h.own, fun x hx y hy => h.sep x hx y (hp.mem_iff.2 hy), h.gdist⟩
theorem Mm.permG (h : Mm B w0 w L G) {G' : List (Value × TypeId × List Value)} (hp : G.Perm G') : Mm B w0 w L G' :=
  ⟨h.below, h.size, h.blk, h.dist, fun x hx => h.own x (hp.mem_iff.2 hx), fun x hx y hy => h.sep x (hp.mem_iff.2 hx) y hy, (hp.pairwise_iff (fun h b e e' => h b e' e)).1 h.gdist⟩
theorem Mm.subG (h : Mm B w0 w L G) {G' : List (Value × TypeId × List Value)} (hs : G'.Sublist G) : Mm B w0 w L G' :=
  ⟨h.below, h.size, h.blk, h.dist, fun x hx => h.own x (hs.subset hx), fun x hx y hy => h.sep x (hs.subset hx) y hy, h.gdist.sublist hs⟩
/-- the same memory, told from later on -/
theorem Mm.since (h : Mm B w0 w L G) : Mm B w w L G := ⟨Below.refl _ _, h.size, h.blk, h.dist, h.own, h.sep, h.gdist⟩
theorem Mm.less (h : Mm B w0 w L G) {C : Nat} (hC : C ≤ B) : Mm C w0 w L G :=
  ⟨h.below.mono hC, Nat.le_trans hC h.size, fun x hx => ⟨Nat.le_trans hC (h.blk x hx).1, (h.blk x hx).2⟩, h.dist, fun x hx => by
    have ho := h.own x hx
    refine ⟨ho.1, ?_⟩
    rcases ho.2 with hn | ⟨g, cap, cur, hv, h1, rest⟩
    · exact .inl hn
    · exact .inr ⟨g, cap, cur, hv, Nat.le_trans hC h1, rest⟩, h.sep, h.gdist⟩
end

/-- the rows of a slice of slices -/
def rowG (rv : List Value) (rows : List (List Int)) : List (Value × TypeId × List Value) := List.zipWith (fun r xs => (r, 2, i64s xs)) rv rows
/-- v is a slice of slices that reads as rows, all in memory from B on that is its own -/
def OwnII (w : World) (B : Nat) (v : Value) (rows : List (List Int)) : Prop := ∃ rv : List Value, rv.length = rows.length ∧ Mm B w w [] ((v, 26, rv) :: rowG rv rows)
/-- v is a slice of slices that reads as rows -/
def SlII (w : World) (v : Value) (rows : List (List Int)) : Prop := ∃ a c, v = .slice a rows.length c ∧ ∀ i, i < rows.length → ∃ b off, a = some ⟨b, off, none⟩ ∧ ∃ a' c', w.cell? ⟨b, off + i, none⟩ = some (.slice a' (rows[i]?.getD []).length c') ∧ IntsAt w a' (rows[i]?.getD [])
theorem SlII.below {w w' : World} {v : Value} {rows : List (List Int)} (h : SlII w v rows) (hb : Below w.heap.size w w') : SlII w' v rows := by
  obtain ⟨a, c, rfl, h⟩ := h
  refine ⟨a, c, rfl, fun i hi => ?_⟩
  obtain ⟨b, off, ha, a', c', hc, hI⟩ := h i hi
  exact ⟨b, off, ha, a', c', (hb.cell (p := ⟨b, off + i, none⟩) (World.block_lt_of_cell? w _ hc)).trans hc, hI.keep hb⟩
theorem rowG_get {rv : List Value} {rows : List (List Int)} (hl : rv.length = rows.length) {i : Nat} (hi : i < rows.length) : (rowG rv rows)[i]? = some (rv[i]?.getD undef, 2, i64s (rows[i]?.getD [])) := by
  simp only [rowG, List.getElem?_zipWith]
  rw [List.getElem?_eq_getElem (by omega : i < rv.length), List.getElem?_eq_getElem hi]
  rfl
theorem OwnI.of_row {w : World} {B : Nat} {v : Value} {xs : List Int} (h : w.ownsRow B 2 1 v (i64s xs).length (i64s xs)) : OwnI w B v xs := by simpa [OwnI, i64s] using h
theorem OwnII.row {w : World} {B : Nat} {v : Value} {rv : List Value} {rows : List (List Int)} (hl : rv.length = rows.length) (h : Mm B w w [] ((v, 26, rv) :: rowG rv rows)) {i : Nat} (hi : i < rows.length) : OwnI w B (rv[i]?.getD undef) (rows[i]?.getD []) :=
  OwnI.of_row (h.own _ (List.mem_cons_of_mem _ (mem_of_get (rowG_get hl hi))))
theorem OwnII.sl {w : World} {B : Nat} {v : Value} {rows : List (List Int)} (h : OwnII w B v rows) : SlII w v rows := by
  obtain ⟨rv, hl, hM⟩ := h
  have ho := hM.own _ (List.mem_cons_self ..)
  simp only at ho
  rcases ho.2 with ⟨rfl, h0⟩ | ⟨g, cap, cur, rfl, h1, hg, h2, h3, h4, h5⟩
  · exact ⟨none, 0, by rw [← hl, h0], fun i hi => by omega⟩
  · refine ⟨some ⟨g, 0, none⟩, cap, by rw [hl], fun i hi => ⟨g, 0, rfl, ?_⟩⟩
    obtain ⟨a', c', e, hI⟩ := (OwnII.row hl hM hi).form
    refine ⟨a', c', ?_, hI⟩
    rw [Nat.zero_add, World.ownsRow.cellAt ho i (by omega), List.getElem?_eq_getElem (by omega : i < rv.length)]
    rw [List.getElem?_eq_getElem (by omega : i < rv.length)] at e
    exact congrArg some e
theorem OwnII.below {w w' : World} {B : Nat} {v : Value} {rows : List (List Int)} (h : OwnII w B v rows) (hb : Below w.heap.size w w') : OwnII w' B v rows := by
  obtain ⟨rv, hl, hM⟩ := h
  exact ⟨rv, hl, (hM.call hb).since⟩
theorem OwnII.less {w : World} {B C : Nat} {v : Value} {rows : List (List Int)} (h : OwnII w B v rows) (hC : C ≤ B) : OwnII w C v rows := by
  obtain ⟨rv, hl, hM⟩ := h
  exact ⟨rv, hl, hM.less hC⟩
theorem OwnII.nil (w : World) (B : Nat) (hB : B ≤ w.heap.size) : OwnII w B (.slice none 0 0) [] :=
  ⟨[], rfl, ⟨Below.refl _ _, hB, fun _ h => (by cases h), List.Pairwise.nil, fun x hx => by rw [List.mem_singleton.1 (show x ∈ [_] from hx)]; exact World.ownsRow_nil _ _ _ _, fun _ _ _ h => (by cases h), List.pairwise_singleton _ _⟩⟩

set_option maxHeartbeats 1000000 in
theorem eqIQ_same (a b : Option Addr) (c d : Nat) (xs : List Int) (hx : xs.length ≤ 2000000) (w : World) (ha : IntsAt w a xs) (hb : IntsAt w b xs) :
    Calls Try.prog 20 #[.slice a xs.length c, .slice b xs.length d] w (RetQ (.bool true) w) := by
  have HA := Lib.hid ha
  have HB := Lib.hid hb
  clear ha hb
  go_enter Try.func20, Try.ntmps20
  go_wp2
  go_loopw [5] (fun i wr => ∃ k : Nat, k ≤ xs.length ∧ i = .int .i64 k ∧ Hid (∃ n, wr = w.drewN n)) (fun i _ => xs.length - (intOf i).toNat)
  case atStart => exact ⟨0, Nat.zero_le _, rfl, 0, rfl⟩
  case round =>
    obtain ⟨k, hk, rfl, HW⟩ := hrel
    by_cases hlt : k < xs.length
    · obtain ⟨g, off, rfl, hc⟩ := HA.out k hlt
      obtain ⟨g', off', rfl, hc'⟩ := HB.out k hlt
      have hcell : ∀ a, wr.cell? a = w.cell? a := fun a => by obtain ⟨n, hn⟩ := HW.out; rw [hn]; rfl
      rw [← hcell] at hc hc'
      clear hcell
      have i1 : (0 : Int) ≤ (k : Int) := by omega
      have i2 : (k : Int) < (xs.length : Int) := by omega
      generalize xs[k]?.getD 0 = x at *
      go_wp2
      go_quiet (fail)
      go_wp2
      go_roundw
      case rel => exact ⟨k + 1, by omega, by go_num, by obtain ⟨n, hn⟩ := HW.out; rw [hn]; exact dN2 _ _ _⟩
      case measure => simp [intOf] <;> omega
    · go_wp2
      go_ret
      exact ⟨rfl, HW.out⟩

set_option maxHeartbeats 1000000 in
theorem eqII_same (a b : Value) (rows : List (List Int)) (hn : rows.length ≤ 2000000) (hx : ∀ i : Nat, (rows[i]?.getD []).length ≤ 2000000) (w : World) (ha : SlII w a rows) (hb : SlII w b rows) :
    Calls Try.prog 27 #[a, b] w (RetQ (.bool true) w) := by
  obtain ⟨a, c, rfl, hA⟩ := ha
  obtain ⟨b, d, rfl, hB⟩ := hb
  have HA := Lib.hid hA
  have HB := Lib.hid hB
  have HX := Lib.hid hx
  clear hA hB hx
  go_enter Try.func27, Try.ntmps27
  go_wp2
  go_loopw [5] (fun i wr => ∃ k : Nat, k ≤ rows.length ∧ i = .int .i64 k ∧ Hid (∃ n, wr = w.drewN n)) (fun i _ => rows.length - (intOf i).toNat)
  case atStart => exact ⟨0, Nat.zero_le _, rfl, 0, rfl⟩
  case round =>
    obtain ⟨k, hk, rfl, HW⟩ := hrel
    by_cases hlt : k < rows.length
    · obtain ⟨g, off, rfl, a1, c1, hc, hI⟩ := HA.out k hlt
      obtain ⟨g', off', rfl, a2, c2, hc', hI'⟩ := HB.out k hlt
      have HE : Hid (∀ n, Calls Try.prog 20 #[.slice a1 (rows[k]?.getD []).length c1, .slice a2 (rows[k]?.getD []).length c2] (wr.drewN n) (RetQ (.bool true) (wr.drewN n))) := fun n => by
        obtain ⟨m, hm⟩ := HW.out
        rw [hm]
        exact eqIQ_same a1 a2 c1 c2 _ (HX.out k) _ hI hI'
      have hcell : ∀ a, wr.cell? a = w.cell? a := fun a => by obtain ⟨n, hn⟩ := HW.out; rw [hn]; rfl
      rw [← hcell] at hc hc'
      clear hcell hI hI'
      have i1 : (0 : Int) ≤ (k : Int) := by omega
      have i2 : (k : Int) < (rows.length : Int) := by omega
      generalize (rows[k]?.getD []).length = len at *
      go_wp2_with fail
      go_quiet ((go_at_call 20; exact Calls.quiet_of (HE.out _)))
      go_wp2_with fail
      go_roundw
      case rel => exact ⟨k + 1, by omega, by go_num, by obtain ⟨n, hn⟩ := HW.out; rw [hn]; exact dN2 _ _ _⟩
      case measure => simp [intOf] <;> omega
    · go_wp2_with fail
      go_ret
      exact ⟨rfl, HW.out⟩

/-- how many numbers there are in the first i rows -/
def sumLen (rows : List (List Int)) (i : Nat) : Nat := ((rows.take i).map List.length).sum
theorem sumLen_succ (rows : List (List Int)) (i : Nat) (h : i < rows.length) : sumLen rows (i + 1) = sumLen rows i + (rows[i]?.getD []).length := by
  simp only [sumLen]
  rw [List.take_succ_eq_append_getElem h, List.map_append, List.sum_append, List.getElem?_eq_getElem h]
  simp
theorem sumLen_le (rows : List (List Int)) (i : Nat) : sumLen rows i ≤ sumLen rows rows.length := by
  simp only [sumLen, List.take_length]
  have h := List.take_append_drop i rows
  conv => rhs; rw [← h, List.map_append, List.sum_append]
  omega
/-- the rows marked, from k on: i rows done -/
def mixII (k i : Nat) (rows : List (List Int)) : List (List Int) := (List.range rows.length).map fun j => if j < i then marks (k + sumLen rows j) (rows[j]?.getD []).length else rows[j]?.getD []
theorem mixII_len (k i : Nat) (rows : List (List Int)) : (mixII k i rows).length = rows.length := by simp [mixII]
theorem mixII_get (k i : Nat) (rows : List (List Int)) {j : Nat} (h : j < rows.length) : (mixII k i rows)[j]?.getD [] = if j < i then marks (k + sumLen rows j) (rows[j]?.getD []).length else rows[j]?.getD [] := by
  simp [mixII, h]
theorem mixII_zero (k : Nat) (rows : List (List Int)) : mixII k 0 rows = rows := by
  apply List.ext_getElem
  · rw [mixII_len]
  · intro j h1 h2
    simp [mixII, h2]
theorem mixII_set (k i : Nat) (rows : List (List Int)) (h : i < rows.length) : (mixII k i rows).set i (marks (k + sumLen rows i) (rows[i]?.getD []).length) = mixII k (i + 1) rows := by
  apply List.ext_getElem
  · simp [mixII_len]
  · intro j h1 h2
    rw [List.getElem_set]
    simp only [mixII, List.getElem_map, List.getElem_range]
    by_cases e : i = j
    · subst e; rw [if_pos rfl, if_pos (by omega)]
    · rw [if_neg e]
      by_cases h3 : j < i
      · rw [if_pos h3, if_pos (by omega)]
      · rw [if_neg h3, if_neg (by omega)]
theorem rowG_set (rv : List Value) (rows : List (List Int)) (i : Nat) (xs : List Int) (hl : rv.length = rows.length) (hi : i < rows.length) : (rowG rv rows).set i (rv[i]?.getD undef, 2, i64s xs) = rowG rv (rows.set i xs) := by
  apply List.ext_getElem?
  intro j
  by_cases e : j = i
  · subst e
    rw [List.getElem?_set_self (by simp [rowG]; omega), rowG_get (by simpa using hl) (by simpa using hi), List.getElem?_set_self hi]
    rfl
  · rw [List.getElem?_set_ne (Ne.symm e)]
    simp only [rowG, List.getElem?_zipWith, List.getElem?_set_ne (Ne.symm e)]

set_option maxHeartbeats 1000000 in
theorem markI2_any (B : Nat) (v : Value) (xs : List Int) (k : Nat) (hx : xs.length ≤ 1000000) (hk : k ≤ 1000000) (w : World) (h : OwnI w B v xs) :
    Calls Try.prog 21 #[v, .int .i64 (k : Int)] w fun e w' => e = .returned (.int .i64 ((k + xs.length : Nat) : Int)) ∧ w.grownBy w' v.ownBlock ∧ OwnI w' B v (marks k xs.length) := by
  obtain ⟨a, c, rfl, -⟩ := h.form
  have H0 : Hid (OwnI w B (.slice a xs.length c) (mixM k 0 xs)) := by
    show OwnI _ _ _ _
    simpa [mixM, marks] using h
  clear h
  go_enter Try.func21, Try.ntmps21
  go_wp2
  go_loopw [1, 5] (fun u i wr => ∃ j : Nat, j ≤ xs.length ∧ i = .int .i64 j ∧ u = .int .i64 ((k + j : Nat) : Int) ∧ Hid (w.grownBy wr (Value.slice a xs.length c).ownBlock) ∧ Hid (OwnI wr B (.slice a xs.length c) (mixM k j xs))) (fun _ i _ => xs.length - (intOf i).toNat)
  case atStart => exact ⟨0, Nat.zero_le _, rfl, rfl, ⟨rfl, rfl, rfl, Nat.le_refl _, fun _ _ _ => rfl⟩, H0⟩
  case round =>
    clear H0
    obtain ⟨j, hj, rfl, rfl, HG, HO⟩ := hrel
    by_cases hlt : j < xs.length
    · have hO := HO.out
      have hlen := mixM_length k j xs hj
      obtain ⟨g, rfl, hgB⟩ : ∃ g, a = some ⟨g, 0, none⟩ ∧ B ≤ g := by
        rcases hO.2 with ⟨_, e⟩ | ⟨g, cap, cur, hv, h1, rest⟩
        · omega
        · simp at hv; exact ⟨g, hv.1, h1⟩
      have hO' : wr.ownsRow B 2 1 (.slice (some ⟨g, 0, none⟩) xs.length c) xs.length (i64s (mixM k j xs)) := by
        have := hO; rw [OwnI, hlen] at this; exact this
      have hcell := hO'.cellAt j (by omega)
      rw [i64s_get (by omega)] at hcell
      have hfz := hO'.frozenAt j
      have hset : Hid (OwnI (wr.setCell ⟨g, j, none⟩ (.int .i64 ((k + j : Nat) : Int))) B (.slice (some ⟨g, 0, none⟩) xs.length c) (mixM k (j + 1) xs)) := by
        have := (hO'.stored j (.int .i64 ((k + j : Nat) : Int))).1
        rw [mixM_succ k j xs hlt] at this
        show World.ownsRow _ _ _ _ _ _ _
        rw [mixM_length k (j + 1) xs hlt]
        exact this
      have HG2 : Hid (w.grownBy (wr.setCell ⟨g, j, none⟩ (.int .i64 ((k + j : Nat) : Int))) (Value.slice (some ⟨g, 0, none⟩) xs.length c).ownBlock) := by
        have hg := HG.out
        refine ⟨hg.os, hg.tape, hg.output, by have := hg.size; simpa [World.setCell] using this, fun b hb hne => ?_⟩
        have : b ≠ g := fun e => hne (by rw [e]; rfl)
        exact (heap_setCell_other wr ⟨g, j, none⟩ b _ this).trans (hg.block b hb hne)
      have i1 : (0 : Int) ≤ (j : Int) := by omega
      have i2 : (j : Int) < (xs.length : Int) := by omega
      obtain ⟨z, hz⟩ : ∃ z, (mixM k j xs)[j]?.getD 0 = z := ⟨_, rfl⟩
      rw [hz] at hcell
      clear hz hO hO' hlen
      go_wp2
      go_roundw
      case rel => exact ⟨j + 1, by omega, by go_num, by go_num, HG2, hset⟩
      case measure => simp [intOf]; omega
    · have hj' : j = xs.length := by omega
      subst hj'
      rw [mixM_all] at HO
      go_wp2
      go_ret
      exact ⟨rfl, HG.out, HO.out⟩

set_option maxHeartbeats 1000000 in
theorem markII_any (B : Nat) (v : Value) (rows : List (List Int)) (k : Nat) (hn : rows.length ≤ 500000) (hs : sumLen rows rows.length ≤ 500000) (hk : k ≤ 100) (w : World) (h : OwnII w B v rows) :
    Calls Try.prog 38 #[v, .int .i64 (k : Int)] w fun e w' => e = .returned (.int .i64 ((k + sumLen rows rows.length : Nat) : Int)) ∧ Below B w w' ∧ OwnII w' B v (mixII k rows.length rows) := by
  obtain ⟨a, c, rfl, -⟩ := h.sl
  obtain ⟨rv, hl, hM⟩ := h
  have H0 : Hid (Mm B w w [] ((.slice a rows.length c, 26, rv) :: rowG rv (mixII k 0 rows))) := by rw [mixII_zero]; exact hM
  clear hM
  go_enter Try.func38, Try.ntmps38
  go_wp2_with fail
  go_loopw [1, 5] (fun u i wr => ∃ j : Nat, j ≤ rows.length ∧ i = .int .i64 j ∧ u = .int .i64 ((k + sumLen rows j : Nat) : Int) ∧ Hid (Mm B w wr [] ((.slice a rows.length c, 26, rv) :: rowG rv (mixII k j rows)))) (fun _ i _ => rows.length - (intOf i).toNat)
  case atStart => exact ⟨0, Nat.zero_le _, rfl, rfl, H0⟩
  case round =>
    clear H0
    obtain ⟨j, hj, rfl, rfl, HM⟩ := hrel
    by_cases hlt : j < rows.length
    · have hlm := mixII_len k j rows
      have ho := HM.out.own _ (List.mem_cons_self ..)
      simp only at ho
      obtain ⟨g, rfl⟩ : ∃ g, a = some ⟨g, 0, none⟩ := by
        rcases ho.2 with ⟨_, e⟩ | ⟨g, cap, cur, hv, h1, rest⟩
        · omega
        · simp at hv; exact ⟨g, hv.1⟩
      rw [hl] at ho
      have hcell := World.ownsRow.cellAt ho j (by omega)
      have hrow := rowG_get (rv := rv) (rows := mixII k j rows) (by rw [hlm]; exact hl) (i := j) (by rw [hlm]; exact hlt)
      rw [mixII_get k j rows hlt, if_neg (by omega)] at hrow
      have hown : OwnI wr B (rv[j]?.getD undef) (rows[j]?.getD []) := OwnI.of_row (HM.out.own _ (List.mem_cons_of_mem _ (mem_of_get hrow)))
      have hcell' : wr.cell? ⟨g, j, none⟩ = some (rv[j]?.getD undef) := by rw [hcell, List.getElem?_eq_getElem (by omega : j < rv.length)]; rfl
      obtain ⟨a', c', e, -⟩ := id hown.form
      have hss := sumLen_succ rows j hlt
      have hsl := sumLen_le rows (j + 1)
      have HSTEP : Hid (∀ w', wr.grownBy w' (rv[j]?.getD undef).ownBlock → OwnI w' B (rv[j]?.getD undef) (marks (k + sumLen rows j) (rows[j]?.getD []).length) → Mm B w w' [] ((.slice (some ⟨g, 0, none⟩) rows.length c, 26, rv) :: rowG rv (mixII k (j + 1) rows))) := fun w' hg ho' => by
        have h1 := HM.out.gcall (j + 1) (by rw [List.getElem?_cons_succ]; exact hrow) hg (n := (i64s (marks (k + sumLen rows j) (rows[j]?.getD []).length)).length) (ys := i64s (marks (k + sumLen rows j) (rows[j]?.getD []).length)) (by simpa [OwnI, i64s] using ho') rfl
        rw [List.set_cons_succ, rowG_set rv (mixII k j rows) j _ (by rw [hlm]; exact hl) (by rw [hlm]; exact hlt), mixII_set k j rows hlt] at h1
        exact h1
      have HOWN := Lib.hid hown
      have i1 : (0 : Int) ≤ (j : Int) := by omega
      have i2 : (j : Int) < (rows.length : Int) := by omega
      have HSS := Lib.hid hss
      have hlen : (rows[j]?.getD []).length ≤ 500000 := by omega
      have hacc : k + sumLen rows j ≤ 1000000 := by omega
      clear hown ho hcell hrow HM hss hsl
      generalize rv[j]?.getD undef = r at *
      generalize rows[j]?.getD [] = xs at *
      subst e
      go_wp2_with fail
      refine (markI2_any B _ xs (k + sumLen rows j) (by omega) hacc _ HOWN.out).mono ?_
      rintro e w1 ⟨rfl, hg, ho'⟩
      have HM1 := Lib.hid (HSTEP.out w1 hg ho')
      clear hg ho' hcell'
      go_wp2_with fail
      go_roundw
      case rel => exact ⟨j + 1, by omega, by go_num, by rw [HSS.out]; exact vint (by omega), HM1⟩
      case measure => simp [intOf] <;> omega
    · have hj' : j = rows.length := by omega
      subst hj'
      go_wp2_with fail
      go_ret
      exact ⟨rfl, HM.out.below, rv, by rw [mixII_len]; exact hl, HM.out.since⟩

set_option maxHeartbeats 1000000 in
theorem heldII_any (B : Nat) (v : Value) (rows : List (List Int)) (k : Nat) (hn : rows.length ≤ 500000) (hs : sumLen rows rows.length ≤ 500000) (hk : k ≤ 100) (w : World) (h : OwnII w B v (mixII k rows.length rows)) :
    Calls Try.prog 39 #[v, .int .i64 (k : Int)] w (Ret (.int .i64 ((k + sumLen rows rows.length : Nat) : Int)) w) := by
  obtain ⟨a, c, rfl, -⟩ := h.sl
  rw [mixII_len]
  obtain ⟨rv, hl, hM⟩ := h
  rw [mixII_len] at hl hM
  have HM := Lib.hid hM
  clear hM
  go_enter Try.func39, Try.ntmps39
  go_wp2_with fail
  go_loopw [1, 5] (fun u i wr => ∃ j : Nat, j ≤ rows.length ∧ i = .int .i64 j ∧ u = .int .i64 ((k + sumLen rows j : Nat) : Int) ∧ Below w.heap.size w wr) (fun _ i _ => rows.length - (intOf i).toNat)
  case atStart => exact ⟨0, Nat.zero_le _, rfl, rfl, Below.refl _ _⟩
  case round =>
    obtain ⟨j, hj, rfl, rfl, hb⟩ := hrel
    by_cases hlt : j < rows.length
    · have hlm := mixII_len k rows.length rows
      have hM := (HM.out.call hb)
      have ho := hM.own _ (List.mem_cons_self ..)
      simp only at ho
      obtain ⟨g, rfl⟩ : ∃ g, a = some ⟨g, 0, none⟩ := by
        rcases ho.2 with ⟨_, e⟩ | ⟨g, cap, cur, hv, h1, rest⟩
        · omega
        · simp at hv; exact ⟨g, hv.1⟩
      rw [hl] at ho
      have hcell := World.ownsRow.cellAt ho j (by omega)
      have hrow := rowG_get (rv := rv) (rows := mixII k rows.length rows) (by rw [hlm]; exact hl) (i := j) (by rw [hlm]; exact hlt)
      rw [mixII_get k rows.length rows hlt, if_pos hlt] at hrow
      have hown : OwnI wr B (rv[j]?.getD undef) (marks (k + sumLen rows j) (rows[j]?.getD []).length) := OwnI.of_row (hM.own _ (List.mem_cons_of_mem _ (mem_of_get hrow)))
      have hcell' : wr.cell? ⟨g, j, none⟩ = some (rv[j]?.getD undef) := by rw [hcell, List.getElem?_eq_getElem (by omega : j < rv.length)]; rfl
      obtain ⟨a', c', e, -⟩ := id hown.form
      have hss := sumLen_succ rows j hlt
      have hsl := sumLen_le rows (j + 1)
      have HOWN := Lib.hid hown
      have i1 : (0 : Int) ≤ (j : Int) := by omega
      have i2 : (j : Int) < (rows.length : Int) := by omega
      have HSS := Lib.hid hss
      have hlen : (rows[j]?.getD []).length ≤ 500000 := by omega
      have hacc : k + sumLen rows j ≤ 1000000 := by omega
      clear hown ho hcell hrow hM hss hsl
      generalize rv[j]?.getD undef = r at *
      generalize (rows[j]?.getD []).length = len at *
      rw [marks_length] at e
      subst e
      go_wp2_with fail
      refine (heldI_any B _ (k + sumLen rows j) len (by omega) hacc _ HOWN.out).mono ?_
      rintro e w1 ⟨rfl, hb1⟩
      have hbb := hb.trans (hb1.mono hb.size)
      clear hcell'
      go_wp2_with fail
      go_roundw
      case rel => exact ⟨j + 1, by omega, by go_num, by rw [HSS.out]; exact vint (by omega), hbb⟩
      case measure => simp [intOf] <;> omega
    · have hj' : j = rows.length := by omega
      subst hj'
      go_wp2_with fail
      go_ret
      exact ⟨rfl, hb⟩

/-- it returns a slice of slices of its own and a code -/
def RetII (rows : List (List Int)) (c : Int) (w : World) (e : Ending) (w' : World) : Prop := ∃ v, e = .returned (.tuple #[v, .int .i64 c]) ∧ Below w.heap.size w w' ∧ OwnII w' w.heap.size v rows
section
variable {B : Nat} {w0 w : World} {v : Value} {rv : List Value} {rows : List (List Int)}
theorem rowG_snoc (r : Value) (xs : List Int) (hl : rv.length = rows.length) : rowG (rv ++ [r]) (rows ++ [xs]) = rowG rv rows ++ [(r, 2, i64s xs)] := by
  simp only [rowG]
  rw [List.zipWith_append hl]
  rfl
/-- a new row of its own -/
theorem Mm.rowNew (h : Mm B w0 w [] ((v, 26, rv) :: rowG rv rows)) (xs : List Int) (hx : xs.length ≤ 1000000) (cs : Array Value) (hcs : cs.toList = i64s xs) :
    Mm B w0 (w.alloc (.cells cs 2)) [] ((.slice (some ⟨w.heap.size, 0, none⟩) xs.length xs.length, 2, i64s xs) :: (v, 26, rv) :: rowG rv rows) := by
  have h1 := h.alloc cs 2
  rw [hcs] at h1
  have h2 := h1.addOwn (b := w.heap.size) (cs := i64s xs) (T := 2) (by simp) xs.length (by simp [i64s]) (by omega)
  simpa using h2
/-- .. that has been appended -/
theorem Mm.rowPut {v' r : Value} {xs : List Int} (h : Mm B w0 w [] ((r, 2, i64s xs) :: (v', 26, rv ++ [r]) :: rowG rv rows)) (hl : rv.length = rows.length) : Mm B w0 w [] ((v', 26, rv ++ [r]) :: rowG (rv ++ [r]) (rows ++ [xs])) := by
  rw [rowG_snoc r xs hl]
  exact h.permG ((List.Perm.swap _ _ _).trans (List.Perm.cons _ (List.perm_append_singleton _ _).symm))
theorem OwnII.of (h : Mm B w0 w [] ((v, 26, rv) :: rowG rv rows)) (hl : rv.length = rows.length) : OwnII w B v rows := ⟨rv, hl, h.since⟩
end

end Go.Proofs.Yteagecoiijhflaa

/- The inverse machine: reference and program. -/
namespace Go.Proofs.Yteagecoiijhflaa
open Go.RowKit
set_option linter.unusedVariables false
set_option linter.unusedSimpArgs false

/-- the inverse machine as far as it is made: states below q, and of q the entries of the letters below x -/
def ivB (m : Mch) (q x i : Nat) : Bool := decide (i / 3 < m.s) && decide (i % 3 < m.l) && (decide (i / 3 < q) || decide (i / 3 = q) && decide (invX m (i / 3) (i % 3) < x))
def ivN (m : Mch) (q x i : Nat) : Int := if ivB m q x i = true then m.n (i / 3) (invX m (i / 3) (i % 3)) else 0
def ivO (m : Mch) (q x i : Nat) : Int := if ivB m q x i = true then (invX m (i / 3) (i % 3) : Int) else 0
def ivM (m : Mch) (q x : Nat) : Mch := ⟨m.L, m.S, (List.range 48).map (ivN m q x), (List.range 48).map (ivO m q x)⟩
/-- .. the output alone of the last letter -/
def ivH (m : Mch) (q x : Nat) : Mch := ⟨m.L, m.S, (List.range 48).map (ivN m q x), (List.range 48).map (ivO m q (x + 1))⟩
theorem map48_congr {f g : Nat → Int} (h : ∀ i, i < 48 → f i = g i) : (List.range 48).map f = (List.range 48).map g := List.map_congr_left fun i hi => h i (by simpa using hi)
theorem map48_set (f : Nat → Int) {j : Nat} (hj : j < 48) (v : Int) : ((List.range 48).map f).set j v = (List.range 48).map fun i => if i = j then v else f i := by
  apply List.ext_getElem
  · simp
  · intro i h1 h2
    rw [List.getElem_set]
    simp only [List.getElem_map, List.getElem_range]
    by_cases e : j = i
    · subst e; simp
    · rw [if_neg e, if_neg (fun h => e h.symm)]
theorem cells_setN (L S : Int) (N O : List Int) (i : Nat) (hi : i < N.length) (v : Int) : (Mch.cells ⟨L, S, N, O⟩).set (2 + i) (.int .u8 v) = Mch.cells ⟨L, S, N.set i v, O⟩ := by
  simp only [Mch.cells]
  rw [show 2 + i = i + 1 + 1 by omega, List.set_cons_succ, List.set_cons_succ, ← List.map_set, List.set_append_left _ _ hi]
theorem cells_setO (L S : Int) (N O : List Int) (i : Nat) (hn : N.length = 48) (v : Int) : (Mch.cells ⟨L, S, N, O⟩).set (50 + i) (.int .u8 v) = Mch.cells ⟨L, S, N, O.set i v⟩ := by
  simp only [Mch.cells]
  rw [show 50 + i = (48 + i) + 1 + 1 by omega, List.set_cons_succ, List.set_cons_succ, ← List.map_set, List.set_append_right _ _ (by omega), hn, show 48 + i - 48 = i by omega]
theorem ivB_step {m : Mch} (hok : m.Ok) (hwf : m.Wf) {q x i : Nat} (hq : q < m.s) (hx : x < m.l) (hi : i < 48) : ivB m q (x + 1) i = (decide (i = q * 3 + m.on q x) || ivB m q x i) := by
  have hy := hok.on_lt hwf hq hx
  have h3 := hok.l_le
  rw [Bool.eq_iff_iff]
  simp only [ivB, Bool.and_eq_true, Bool.or_eq_true, decide_eq_true_eq]
  by_cases e : i = q * 3 + m.on q x
  · have e1 : i / 3 = q := by omega
    have e2 : i % 3 = m.on q x := by omega
    rw [e1, e2, invX_of hok hwf hq hx]
    constructor
    · intro _; exact .inl e
    · intro _; exact ⟨⟨hq, hy⟩, .inr ⟨rfl, by omega⟩⟩
  · constructor
    · rintro ⟨⟨h1, h2⟩, h | ⟨h4, h5⟩⟩
      · exact .inr ⟨⟨h1, h2⟩, .inl h⟩
      · refine .inr ⟨⟨h1, h2⟩, .inr ⟨h4, ?_⟩⟩
        rcases Nat.lt_or_ge (invX m (i / 3) (i % 3)) x with c | c
        · exact c
        · exfalso
          have e' : invX m (i / 3) (i % 3) = x := by omega
          have := (invX_spec hok hwf h1 h2).2
          rw [e', h4] at this
          omega
    · rintro (h | ⟨⟨h1, h2⟩, h | ⟨h4, h5⟩⟩)
      · exact absurd h e
      · exact ⟨⟨h1, h2⟩, .inl h⟩
      · exact ⟨⟨h1, h2⟩, .inr ⟨h4, by omega⟩⟩
theorem ivO_step {m : Mch} (hok : m.Ok) (hwf : m.Wf) {q x : Nat} (hq : q < m.s) (hx : x < m.l) : (ivM m q x).cells.set (50 + q * 3 + m.on q x) (.int .u8 (x : Int)) = (ivH m q x).cells := by
  rw [Nat.add_assoc]
  have hy := hok.on_lt hwf hq hx
  have h3 := hok.l_le
  have h16 := hok.s_le
  rw [ivM, cells_setO _ _ _ _ _ (by simp), map48_set _ (by omega), ivH]
  congr 2
  refine map48_congr fun i hi => ?_
  simp only [ivO, ivB_step hok hwf hq hx hi]
  by_cases e : i = q * 3 + m.on q x
  · have e1 : i / 3 = q := by omega
    have e2 : i % 3 = m.on q x := by omega
    simp [e, e1, e2, invX_of hok hwf hq hx]
    rw [show (q * 3 + m.on q x) / 3 = q by omega, show m.on q x % 3 = m.on q x by omega, invX_of hok hwf hq hx]
  · simp [e]
theorem ivN_step {m : Mch} (hok : m.Ok) (hwf : m.Wf) {q x : Nat} (hq : q < m.s) (hx : x < m.l) : (ivH m q x).cells.set (2 + q * 3 + m.on q x) (.int .u8 (m.nn q x : Int)) = (ivM m q (x + 1)).cells := by
  rw [Nat.add_assoc]
  have hy := hok.on_lt hwf hq hx
  have h3 := hok.l_le
  have h16 := hok.s_le
  rw [ivH, cells_setN _ _ _ _ _ (by simp; omega), map48_set _ (by omega), ivM]
  congr 2
  refine map48_congr fun i hi => ?_
  simp only [ivN, ivB_step hok hwf hq hx hi]
  by_cases e : i = q * 3 + m.on q x
  · simp [e]
    rw [show (q * 3 + m.on q x) / 3 = q by omega, show m.on q x % 3 = m.on q x by omega, invX_of hok hwf hq hx, hok.n_eq hwf hq hx]
  · simp [e]
theorem ivM_row {m : Mch} (hok : m.Ok) (hwf : m.Wf) {q : Nat} (hq : q < m.s) : ivM m q m.l = ivM m (q + 1) 0 := by
  have : ∀ i, ivB m q m.l i = ivB m (q + 1) 0 i := fun i => by
    rw [Bool.eq_iff_iff]
    simp only [ivB, Bool.and_eq_true, Bool.or_eq_true, decide_eq_true_eq]
    constructor
    · rintro ⟨⟨h1, h2⟩, h | ⟨h4, h5⟩⟩
      · exact ⟨⟨h1, h2⟩, .inl (by omega)⟩
      · exact ⟨⟨h1, h2⟩, .inl (by omega)⟩
    · rintro ⟨⟨h1, h2⟩, h | ⟨h4, h5⟩⟩
      · by_cases e : i / 3 = q
        · exact ⟨⟨h1, h2⟩, .inr ⟨e, (invX_spec hok hwf h1 h2).1⟩⟩
        · exact ⟨⟨h1, h2⟩, .inl (by omega)⟩
      · omega
  simp only [ivM]
  congr 1 <;> exact map48_congr fun i _ => by simp only [ivN, ivO, this]
theorem ivM_all {m : Mch} : ivM m m.s 0 = invM m := by
  have hb : ∀ i, ivB m m.s 0 i = true ↔ i / 3 < m.s ∧ i % 3 < m.l := fun i => by
    simp only [ivB, Bool.and_eq_true, Bool.or_eq_true, decide_eq_true_eq]
    constructor
    · exact fun h => h.1
    · exact fun h => ⟨h, .inl h.1⟩
  simp only [ivM, invM]
  congr 1
  · exact map48_congr fun i _ => by simp only [ivN, hb]
  · exact map48_congr fun i _ => by simp only [ivO, hb]
theorem ivM_none (m : Mch) : ivM m 0 0 = ⟨m.L, m.S, List.replicate 48 0, List.replicate 48 0⟩ := by
  simp only [ivM]
  congr 1
  · rw [show List.replicate 48 (0 : Int) = (List.range 48).map fun _ => 0 from by decide]; exact map48_congr fun i _ => by simp [ivN, ivB]
  · rw [show List.replicate 48 (0 : Int) = (List.range 48).map fun _ => 0 from by decide]; exact map48_congr fun i _ => by simp [ivO, ivB]
theorem zero98 (a b : Value) : ((Try.zeroCells29.setIfInBounds 0 a).setIfInBounds 1 b).toList = a :: b :: ((List.replicate 48 (0 : Int)) ++ (List.replicate 48 (0 : Int))).map (Value.int .u8) := by
  kernel_rfl
theorem ivM_start (m : Mch) : ((Try.zeroCells29.setIfInBounds 0 (.int .i64 m.L)).setIfInBounds 1 (.int .i64 m.S)).toList = (ivM m 0 0).cells := by
  rw [zero98, ivM_none]; rfl
theorem ivM_wf {m : Mch} (hok : m.Ok) (hwf : m.Wf) (q x : Nat) : (ivM m q x).Wf := by
  have h3 := hok.l_le
  refine ⟨by simp [ivM], by simp [ivM], fun i => ?_, fun i => ?_, hwf.lb, hwf.sb⟩
  · by_cases hi : i < 48
    · simp only [ivM, List.getElem?_map, List.getElem?_range hi, Option.map_some, Option.getD_some, ivN]
      split
      · exact hwf.nb _
      · omega
    · simp [ivM, hi]
  · by_cases hi : i < 48
    · simp only [ivM, List.getElem?_map, List.getElem?_range hi, Option.map_some, Option.getD_some, ivO]
      split
      · rename_i h
        simp only [ivB, Bool.and_eq_true, decide_eq_true_eq] at h
        have := (invX_spec hok hwf h.1.1 h.1.2).1
        omega
      · omega
    · simp [ivM, hi]
theorem ivH_wf {m : Mch} (hok : m.Ok) (hwf : m.Wf) (q x : Nat) : (ivH m q x).Wf := by
  have h1 := ivM_wf hok hwf q x
  have h2 := ivM_wf hok hwf q (x + 1)
  exact ⟨h1.nl, h2.ol, h1.nb, h2.ob, hwf.lb, hwf.sb⟩
theorem mach_ones (m : Mch) : ∀ v ∈ m.cells, v.oneCell' = true := fun v hv => by
  simp only [Mch.cells, List.mem_cons, List.mem_map] at hv
  rcases hv with rfl | rfl | ⟨z, _, rfl⟩ <;> rfl
theorem mach_infoT {m : Mch} (hwf : m.Wf) : (Try.prog.info? 29).map (·.size) = some m.cells.length := by rw [Mch.cells_length hwf]; kernel_rfl

theorem zero_len : Try.zeroCells29.toList.length = 98 := by kernel_rfl
theorem ivM_startA (m : Mch) : ((Try.zeroCells29.setIfInBounds 0 (.int .i64 m.L)).setIfInBounds 1 (.int .i64 m.S)) = (ivM m 0 0).cells.toArray := by
  rw [← ivM_start]
set_option maxRecDepth 100000 in
set_option maxHeartbeats 4000000 in
theorem l01Inverse_any (m : Mch) (hwf : m.Wf) (hok : m.Ok) (w : World) :
    Calls Try.prog 88 #[.agg m.cells.toArray] w (Ret (.agg (invM m).cells.toArray) w) := by
  have h3 := hok.l_le
  have h16 := hok.s_le
  have hl : m.cells[0]? = some (.int .i64 m.L) := rfl
  have hs : m.cells[1]? = some (.int .i64 m.S) := rfl
  have hM0 := (((Mm.start w).alloc m.cells.toArray 29).alloc Try.zeroCells29 29).alloc Try.zeroCells29 29
  rw [show (w.alloc (.cells m.cells.toArray 29)).heap.size = w.heap.size + 1 by simp, show ((w.alloc (.cells m.cells.toArray 29)).alloc (.cells Try.zeroCells29 29)).heap.size = w.heap.size + 1 + 1 by simp] at hM0
  have hw0 := ivM_wf hok hwf 0 0
  have ht := (hM0.at 0 rfl).there 0 (ivM m 0 0).cells.length (by simp only; rw [zero_len, Mch.cells_length hw0]; omega)
  have hM1 := hM0.setAll 0 rfl (vs := (ivM m 0 0).cells) (by rw [zero_len, Mch.cells_length hw0])
  simp only [List.set_cons_zero] at hM1
  have HM1 := Lib.hid hM1
  have HI := Lib.hid (mach_infoT hw0)
  have H1 := Lib.hid (mach_ones (ivM m 0 0))
  have HS := Lib.hid (ivM_startA m)
  clear hM0 hM1 hw0
  go_enter Try.func88, Try.ntmps88
  go_wp2_with ((with_reducible refine st_row ?_ 29 (.tmp 3) (.tmp 11) ?_ (w.heap.size + 1 + 1) 0 (ivM m 0 0).cells ?_ ?_ ht HI.out H1.out ?_); exact rfl; exact rfl; exact rfl; (rw [← HS.out]; exact rfl))
  clear ht
  go_loopw [4] (fun i wr => ∃ q : Nat, q ≤ m.s ∧ i = .int .i64 q ∧ Mm w.heap.size w wr [(w.heap.size + 1 + 1, (ivM m q 0).cells, 29), (w.heap.size + 1, Try.zeroCells29.toList, 29), (w.heap.size, m.cells, 29)] []) (fun i _ => m.s - (intOf i).toNat)
  case atStart => exact ⟨0, Nat.zero_le _, rfl, HM1.out⟩
  case round =>
    clear HM1 HI H1 HS hl hs
    obtain ⟨q, hq, rfl, hM⟩ := hrel
    have cs := (hM.mach 2 rfl).s
    rw [hok.S_eq] at cs
    by_cases hlt : q < m.s
    · have i1 : (0 : Int) ≤ (q : Int) := by omega
      have i2 : (q : Int) < 16 := by omega
      have i3 : (q : Int) < (m.s : Int) := by omega
      go_wp2_with fail
      clear cs
      obtain ⟨wo, rfl⟩ : ∃ wo : World, wo = wr := ⟨_, rfl⟩
      go_loopw [5] (fun i wr => ∃ x : Nat, x ≤ m.l ∧ i = .int .i64 x ∧ Mm w.heap.size w wr [(w.heap.size + 1 + 1, (ivM m q x).cells, 29), (w.heap.size + 1, Try.zeroCells29.toList, 29), (w.heap.size, m.cells, 29)] []) (fun i _ => m.l - (intOf i).toNat)
      case atStart => exact ⟨0, Nat.zero_le _, rfl, hM⟩
      case round =>
        clear hM
        obtain ⟨x, hx, rfl, hM⟩ := hrel
        have cl := (hM.mach 2 rfl).l
        rw [hok.L_eq] at cl
        by_cases hxl : x < m.l
        · have hmm := hM.mach 2 rfl
          have co := hmm.oo hwf (q := q) (x := x) (by omega) (by omega)
          have cn := hmm.nn hwf (q := q) (x := x) (by omega) (by omega)
          rw [hok.o_eq hwf hlt hxl] at co
          rw [hok.n_eq hwf hlt hxl] at cn
          have hy := hok.on_lt hwf hlt hxl
          have hz := hok.nn_lt hwf hlt hxl
          have hw1 := ivM_wf hok hwf q x
          have hw2 := ivH_wf hok hwf q x
          have d1 := (hM.mach 0 rfl).oo hw1 (q := q) (x := m.on q x) (by omega) (by omega)
          have f1 := (hM.at 0 rfl).free (50 + q * 3 + m.on q x)
          have hM2 := hM.setCell 0 rfl (50 + q * 3 + m.on q x) (.int .u8 (x : Int))
          rw [ivO_step hok hwf hlt hxl] at hM2
          simp only [List.set_cons_zero] at hM2
          have HM2 := Lib.hid hM2.drew
          have HSTEP : Hid (∀ W, Mm w.heap.size w W [(w.heap.size + 1 + 1, (ivH m q x).cells, 29), (w.heap.size + 1, Try.zeroCells29.toList, 29), (w.heap.size, m.cells, 29)] [] → Mm w.heap.size w (W.setCell ⟨w.heap.size + 1 + 1, 2 + q * 3 + m.on q x, none⟩ (.int .u8 (m.nn q x : Int))) [(w.heap.size + 1 + 1, (ivM m q (x + 1)).cells, 29), (w.heap.size + 1, Try.zeroCells29.toList, 29), (w.heap.size, m.cells, 29)] []) := fun W h => by
            have := h.setCell 0 rfl (2 + q * 3 + m.on q x) (.int .u8 (m.nn q x : Int))
            rw [ivN_step hok hwf hlt hxl] at this
            simpa only [List.set_cons_zero] using this
          have j1 : (0 : Int) ≤ (x : Int) := by omega
          have j2 : (x : Int) < 3 := by omega
          have j3 : (0 : Int) ≤ (m.on q x : Int) := by omega
          have j4 : (m.on q x : Int) < 3 := by omega
          have j5 : (m.nn q x : Int) < 16 := by omega
          have j6 : (0 : Int) ≤ (m.nn q x : Int) := by omega
          obtain ⟨wa, hwa⟩ : ∃ wa, wa = wr.setCell ⟨w.heap.size + 1 + 1, 50 + q * 3 + m.on q x, none⟩ (.int .u8 (x : Int)) := ⟨_, rfl⟩
          rw [← hwa] at HM2
          have e1 := (HM2.out.mach 2 rfl).nn hwf (q := q) (x := x) (by omega) (by omega)
          rw [hok.n_eq hwf hlt hxl] at e1
          have e2 := (HM2.out.mach 0 rfl).nn hw2 (q := q) (x := m.on q x) (by omega) (by omega)
          have e3 := (HM2.out.at 0 rfl).free (2 + q * 3 + m.on q x)
          have HS2 := Lib.hid (HSTEP.out _ HM2.out)
          have HWA := Lib.hid hwa
          clear hM2 hmm hw1 hM hwa HM2 HSTEP hw2
          generalize m.on q x = Y at *
          generalize m.nn q x = Z at *
          go_wp2_with fail
          rw [← HWA.out]
          go_still_tail 11, (by kernel_rfl)
          change wpList _ _ _ _ _ wa.drew
          generalize wa.drew = wb at *
          clear HWA
          go_wp2_with fail
          go_roundw
          case rel => exact ⟨x + 1, by omega, by go_num, HS2.out⟩
          case measure => simp [intOf]; omega
        · have hx' : x = m.l := by omega
          subst hx'
          rw [ivM_row hok hwf hlt] at hM
          go_wp2_with fail
          go_roundw
          case rel => exact ⟨q + 1, by omega, by go_num, hM⟩
          case measure => simp [intOf]; omega
    · have hq' : q = m.s := by omega
      subst hq'
      rw [ivM_all] at hM
      have hw1 := invM_wf hok hwf
      have hm1 := hM.mach 0 rfl
      have ht := (hM.at 1 rfl).there 0 (invM m).cells.length (by simp only; rw [zero_len, Mch.cells_length hw1]; omega)
      have HI := Lib.hid (mach_infoT hw1)
      have H1 := Lib.hid (mach_ones (invM m))
      have hM2 := hM.setAll 1 rfl (vs := (invM m).cells) (by rw [zero_len, Mch.cells_length hw1])
      have HB := Lib.hid (hM2.at 1 rfl)
      have HM2 := Lib.hid hM2
      have HI5 : Hid ((Try.prog.info? 29).map (·.size) = some (invM m).cells.toArray.size) := HI.out.trans (by rw [List.size_toArray])
      clear hM2
      go_wp2_with (first | ((with_reducible refine st_row ?_ 29 (.tmp 2) (.tmp 48) ?_ (w.heap.size + 1) 0 (invM m).cells ?_ ?_ ht HI.out H1.out ?_); exact rfl; exact rfl; exact rfl; exact rfl) | ((with_reducible refine ld_mach ?_ (.tmp 3) ?_ (w.heap.size + 1 + 1) 0 ?_ (invM m) hm1 hw1 ?_); exact rfl; exact rfl; exact rfl))
      exact bodyPost_ret (v := .agg (invM m).cells.toArray) (results_cell_row Try.results88 _ _ (w.heap.size + 1) 29 (invM m).cells.toArray (0, 0) (.struct _) rfl HB.out Try.underlying29 rfl HI5.out) rfl ⟨rfl, HM2.out.below⟩

set_option maxRecDepth 100000 in
set_option maxHeartbeats 4000000 in
theorem inverse_any (b o : Nat) (m : Mch) (hwf : m.Wf) (hok : m.Ok) (w : World) (hm : MAt w b o m) :
    Calls Try.prog 105 #[.pointer (some ⟨b, o, none⟩)] w (Ret (.agg (invM m).cells.toArray) w) := by
  have h3 := hok.l_le
  have h16 := hok.s_le
  have hbw : b < w.heap.size := World.block_lt_of_cell? w _ hm.l
  have HS : Hid (∀ W, Below w.heap.size w W → W.cell? ⟨b, o, none⟩ = some (.int .i64 m.L) ∧ W.cell? ⟨b, o + 1, none⟩ = some (.int .i64 m.S)) := fun W hW => ⟨(hm.below hW hbw).l, (hm.below hW hbw).s⟩
  have hM0 := ((Mm.start w).alloc Try.zeroCells29 29)
  have HM0 := Lib.hid hM0
  have hw0 := ivM_wf hok hwf 0 0
  have HI := Lib.hid (mach_infoT hw0)
  have H1 := Lib.hid (mach_ones (ivM m 0 0))
  have HST := Lib.hid (ivM_startA m)
  have hmx : Try.prog.follows .mixedOrders = true := by kernel_rfl
  have HMX := Lib.hid hmx
  have hlen := Mch.cells_length hw0
  have HLEN := Lib.hid hlen
  clear hM0 hmx hlen
  go_enter Try.func105, Try.ntmps105
  go_wp2_with fail
  refine region_S (fun W => W.cell? ⟨b, o, none⟩ = some (.int .i64 m.L) ∧ W.cell? ⟨b, o + 1, none⟩ = some (.int .i64 m.S)) [] 11 rfl HMX.out (HS.out _ HM0.out.below.drew) (fun hU => ?_)
  have HMa := Lib.hid HM0.out.drew
  obtain ⟨wa, hwa⟩ : ∃ wa, wa = (w.alloc (.cells Try.zeroCells29 29)).drew := ⟨_, rfl⟩
  have hsz : wa.heap.size = w.heap.size + 1 := by rw [hwa]; show (w.alloc _).heap.size = _; simp
  rw [← hwa] at hU HMa ⊢
  have HSZ := Lib.hid hsz
  clear hwa HM0 hsz
  (refine AnyS.take (i := 0) rfl (by kernel_rfl) (by kernel_rfl) (by kernel_rfl) (by rfl) (fun _ _ _ h => h) (by rfl) (by intro w; go_simp; with_reducible rfl) hU (fun hU => ?_); (try simp only [Act.put, List.setIfInBounds_toArray, List.set_cons_zero, List.set_cons_succ]); refine AnyS.take (i := 1) rfl (by kernel_rfl) (by kernel_rfl) (by kernel_rfl) (by rfl) (fun _ _ _ h => h) (by rfl) (by intro w; go_simp; with_reducible rfl) hU (fun hU => ?_); (try simp only [Act.put, List.setIfInBounds_toArray, List.set_cons_zero, List.set_cons_succ]); refine AnyS.take (i := 2) rfl (by kernel_rfl) (by kernel_rfl) (by kernel_rfl) (by rfl) (fun _ _ _ h => h) (by rfl) (by intro w; go_simp; with_reducible rfl) hU (fun hU => ?_); (try simp only [Act.put, List.setIfInBounds_toArray, List.set_cons_zero, List.set_cons_succ]))
  (refine AnyS.takeS (i := 3) rfl (by kernel_rfl) (by kernel_rfl) (by kernel_rfl) (by rfl) (by kernel_rfl) (by kernel_rfl) (fun _ _ _ h => h) (by rfl) (by intro W hSw; have h1 := hSw.1; clear hSw; go_simp; with_reducible rfl) hU (fun hU => ?_); (try simp only [Act.put, List.setIfInBounds_toArray, List.set_cons_zero, List.set_cons_succ]))
  (refine AnyS.take (i := 4) rfl (by kernel_rfl) (by kernel_rfl) (by kernel_rfl) (by rfl) (fun _ _ _ h => h) (by rfl) (by intro w; go_simp; with_reducible rfl) hU (fun hU => ?_); (try simp only [Act.put, List.setIfInBounds_toArray, List.set_cons_zero, List.set_cons_succ]); refine AnyS.take (i := 5) rfl (by kernel_rfl) (by kernel_rfl) (by kernel_rfl) (by rfl) (fun _ _ _ h => h) (by rfl) (by intro w; go_simp; with_reducible rfl) hU (fun hU => ?_); (try simp only [Act.put, List.setIfInBounds_toArray, List.set_cons_zero, List.set_cons_succ]); refine AnyS.take (i := 6) rfl (by kernel_rfl) (by kernel_rfl) (by kernel_rfl) (by rfl) (fun _ _ _ h => h) (by rfl) (by intro w; go_simp; with_reducible rfl) hU (fun hU => ?_); (try simp only [Act.put, List.setIfInBounds_toArray, List.set_cons_zero, List.set_cons_succ]))
  (refine AnyS.takeS (i := 7) rfl (by kernel_rfl) (by kernel_rfl) (by kernel_rfl) (by rfl) (by kernel_rfl) (by kernel_rfl) (fun _ _ _ h => h) (by rfl) (by intro W hSw; have h1 := hSw.2; clear hSw; go_simp; with_reducible rfl) hU (fun hU => ?_); (try simp only [Act.put, List.setIfInBounds_toArray, List.set_cons_zero, List.set_cons_succ]))
  (refine AnyS.take (i := 8) rfl (by kernel_rfl) (by kernel_rfl) (by kernel_rfl) (by rfl) (fun _ _ _ h => h) (by rfl) (by intro w; go_simp; with_reducible rfl) hU (fun hU => ?_); (try simp only [Act.put, List.setIfInBounds_toArray, List.set_cons_zero, List.set_cons_succ]))
  refine AnyS.branch (rs := [9]) (by kernel_rfl) (by simp) (AllS.cons rfl (fun K hK => ?_) AllS.nil)
  go_simp
  rw [HSZ.out]
  have hM1 := HMa.out.alloc Try.zeroCells29 29
  rw [HSZ.out] at hM1
  have ht := (hM1.at 0 rfl).there 0 (ivM m 0 0).cells.length (by simp only; rw [zero_len, HLEN.out]; omega)
  have hM2 := hM1.setAll 0 rfl (vs := (ivM m 0 0).cells) (by rw [zero_len, HLEN.out])
  simp only [List.set_cons_zero] at hM2
  have HM2 := Lib.hid hM2
  refine hK.out _ _ (.inl (HS.out _ hM1.below)) (fun hU => ?_)
  clear hK K
  (try simp only [Act.put, List.setIfInBounds_toArray, List.set_cons_zero, List.set_cons_succ])
  refine AnyS.branch (rs := [10]) (by kernel_rfl) (by simp) (AllS.cons rfl (fun K hK => ?_) AllS.nil)
  rw [if_pos (by kernel_rfl)]
  refine wp_store_mid 29 (.tmp 3) (.tmp 15) rfl (w.heap.size + 1) 0 (ivM m 0 0).cells.toArray rfl (by rw [← HST.out]; exact rfl) (by rw [List.size_toArray]; exact ht) (by rw [List.size_toArray]; exact HI.out) (all_oneCell_toArray H1.out) ?_
  refine hK.out _ _ (.inl (HS.out _ HM2.out.below)) (fun hU => ?_)
  clear hK K
  (try simp only [Act.put, List.setIfInBounds_toArray, List.set_cons_zero, List.set_cons_succ])
  refine AnyS.done (by kernel_rfl) ?_ _
  clear hU ht hM1 hM2
  generalize wa.alloc _ = wc at *
  have HM3 : Hid (Mm w.heap.size w (wc.setCells (w.heap.size + 1) 0 (ivM m 0 0).cells) [(w.heap.size + 1, (ivM m 0 0).cells, 29), (w.heap.size, Try.zeroCells29.toList, 29)] []) := HM2
  clear HM2
  have hs0 := (HS.out _ HM3.out.below).2
  rw [hok.S_eq] at hs0
  go_wp2_with fail
  go_loopw [20] (fun i wr => ∃ q : Nat, q ≤ m.s ∧ i = .int .i64 q ∧ Mm w.heap.size w wr [(w.heap.size + 1, (ivM m q 0).cells, 29), (w.heap.size, Try.zeroCells29.toList, 29)] []) (fun i _ => m.s - (intOf i).toNat)
  case atStart => exact ⟨0, Nat.zero_le _, rfl, HM3.out⟩
  case round =>
    clear HM3 HI H1 HST hs0
    obtain ⟨q, hq, rfl, hM⟩ := hrel
    by_cases hlt : q < m.s
    · have i1 : (0 : Int) ≤ (q : Int) := by omega
      have i2 : (q : Int) < 16 := by omega
      have i3 : (q : Int) < (m.s : Int) := by omega
      have cl := (HS.out _ hM.below).1
      rw [hok.L_eq] at cl
      go_wp2_with fail
      clear cl
      obtain ⟨wo, rfl⟩ : ∃ wo : World, wo = wr := ⟨_, rfl⟩
      go_loopw [27] (fun i wr => ∃ x : Nat, x ≤ m.l ∧ i = .int .i64 x ∧ Mm w.heap.size w wr [(w.heap.size + 1, (ivM m q x).cells, 29), (w.heap.size, Try.zeroCells29.toList, 29)] []) (fun i _ => m.l - (intOf i).toNat)
      case atStart => exact ⟨0, Nat.zero_le _, rfl, hM⟩
      case round =>
        clear hM
        obtain ⟨x, hx, rfl, hM⟩ := hrel
        by_cases hxl : x < m.l
        · have j1 : (0 : Int) ≤ (x : Int) := by omega
          have j2 : (x : Int) < 3 := by omega
          have j7 : (x : Int) < (m.l : Int) := by omega
          have HMW : Hid (MAt wr b o m) := hm.below hM.below hbw
          have HOUT : Hid (∀ W, MAt W b o m → Calls Try.prog 133 #[.pointer (some ⟨b, o, none⟩), .int .i64 q, .int .i64 x] W fun e w' => e = .returned (.int .i64 (m.on q x : Int)) ∧ W = w') := fun W hW => by
            have := out_any b o m hwf q x (by omega) (by omega) W hW
            rwa [Int.toNat_natCast, Int.toNat_natCast, hok.o_eq hwf hlt hxl] at this
          go_wp2_with fail
          refine (HOUT.out _ HMW.out).mono ?_
          rintro e w' ⟨rfl, rfl⟩
          have hy := hok.on_lt hwf hlt hxl
          have hz := hok.nn_lt hwf hlt hxl
          have hw1 := ivM_wf hok hwf q x
          have hw2 := ivH_wf hok hwf q x
          have hMd := hM.drew
          have d1 := (hMd.mach 0 rfl).oo hw1 (q := q) (x := m.on q x) (by omega) (by omega)
          have f1 := (hMd.at 0 rfl).free (50 + q * 3 + m.on q x)
          have hM2 := hMd.setCell 0 rfl (50 + q * 3 + m.on q x) (.int .u8 (x : Int))
          rw [ivO_step hok hwf hlt hxl] at hM2
          simp only [List.set_cons_zero] at hM2
          have HM2 := Lib.hid hM2
          have d2 := (hM2.mach 0 rfl).nn hw2 (q := q) (x := m.on q x) (by omega) (by omega)
          have f2 := (hM2.at 0 rfl).free (2 + q * 3 + m.on q x)
          have HD2 := Lib.hid d2
          have HF2 := Lib.hid f2
          have hM3 := hM2.setCell 0 rfl (2 + q * 3 + m.on q x) (.int .u8 (m.nn q x : Int))
          rw [ivN_step hok hwf hlt hxl] at hM3
          simp only [List.set_cons_zero] at hM3
          have HM3 := Lib.hid hM3
          have HSM : Hid (∀ W, Below w.heap.size w W → W.cell? ⟨b, o + 2 + q * 3 + x, none⟩ = some (.int .u8 (m.nn q x : Int))) := fun W hW => by
            have := (hm.below hW hbw).nn hwf (q := q) (x := x) (by omega) (by omega)
            rwa [hok.n_eq hwf hlt hxl] at this
          have j3 : (0 : Int) ≤ (m.on q x : Int) := by omega
          have j4 : (m.on q x : Int) < 3 := by omega
          have j5 : (m.nn q x : Int) < 16 := by omega
          have j6 : (0 : Int) ≤ (m.nn q x : Int) := by omega
          have HBL := Lib.hid hMd.below
          obtain ⟨W, hW⟩ : ∃ W, W = wr.drew := ⟨_, rfl⟩
          have HW := Lib.hid hW
          rw [← hW] at d1 f1 HM2 HD2 HF2 HM3 HBL
          clear hM2 hM3 hM hMd d2 f2 hw1 hw2 hW HOUT HMW
          generalize m.on q x = Y at *
          generalize m.nn q x = Z at *
          go_wp2_with fail
          refine region_S (fun W => W.cell? ⟨b, o + 2 + q * 3 + x, none⟩ = some (.int .u8 (Z : Int))) [] 22 rfl HMX.out (by rw [← HW.out]; exact HSM.out _ HBL.out) (fun hU => ?_)
          rw [← HW.out] at hU ⊢
          (refine AnyS.take (i := 0) rfl (by kernel_rfl) (by kernel_rfl) (by kernel_rfl) (by rfl) (fun _ _ _ h => h) (by rfl) (by intro w; go_simp; with_reducible rfl) hU (fun hU => ?_); (try simp only [Act.put, List.setIfInBounds_toArray, List.set_cons_zero, List.set_cons_succ]); refine AnyS.take (i := 1) rfl (by kernel_rfl) (by kernel_rfl) (by kernel_rfl) (by rfl) (fun _ _ _ h => h) (by rfl) (by intro w; go_simp; with_reducible rfl) hU (fun hU => ?_); (try simp only [Act.put, List.setIfInBounds_toArray, List.set_cons_zero, List.set_cons_succ]); refine AnyS.take (i := 2) rfl (by kernel_rfl) (by kernel_rfl) (by kernel_rfl) (by rfl) (fun _ _ _ h => h) (by rfl) (by intro w; go_simp; with_reducible rfl) hU (fun hU => ?_); (try simp only [Act.put, List.setIfInBounds_toArray, List.set_cons_zero, List.set_cons_succ]); refine AnyS.take (i := 3) rfl (by kernel_rfl) (by kernel_rfl) (by kernel_rfl) (by rfl) (fun _ _ _ h => h) (by rfl) (by intro w; go_simp; with_reducible rfl) hU (fun hU => ?_); (try simp only [Act.put, List.setIfInBounds_toArray, List.set_cons_zero, List.set_cons_succ]); refine AnyS.take (i := 4) rfl (by kernel_rfl) (by kernel_rfl) (by kernel_rfl) (by rfl) (fun _ _ _ h => h) (by rfl) (by intro w; go_simp; with_reducible rfl) hU (fun hU => ?_); (try simp only [Act.put, List.setIfInBounds_toArray, List.set_cons_zero, List.set_cons_succ]); refine AnyS.take (i := 5) rfl (by kernel_rfl) (by kernel_rfl) (by kernel_rfl) (by rfl) (fun _ _ _ h => h) (by rfl) (by intro w; go_simp; with_reducible rfl) hU (fun hU => ?_); (try simp only [Act.put, List.setIfInBounds_toArray, List.set_cons_zero, List.set_cons_succ]); refine AnyS.take (i := 6) rfl (by kernel_rfl) (by kernel_rfl) (by kernel_rfl) (by rfl) (fun _ _ _ h => h) (by rfl) (by intro w; go_simp; with_reducible rfl) hU (fun hU => ?_); (try simp only [Act.put, List.setIfInBounds_toArray, List.set_cons_zero, List.set_cons_succ]); refine AnyS.take (i := 7) rfl (by kernel_rfl) (by kernel_rfl) (by kernel_rfl) (by rfl) (fun _ _ _ h => h) (by rfl) (by intro w; go_simp; with_reducible rfl) hU (fun hU => ?_); (try simp only [Act.put, List.setIfInBounds_toArray, List.set_cons_zero, List.set_cons_succ]); refine AnyS.take (i := 8) rfl (by kernel_rfl) (by kernel_rfl) (by kernel_rfl) (by rfl) (fun _ _ _ h => h) (by rfl) (by intro w; go_simp; with_reducible rfl) hU (fun hU => ?_); (try simp only [Act.put, List.setIfInBounds_toArray, List.set_cons_zero, List.set_cons_succ]); refine AnyS.take (i := 9) rfl (by kernel_rfl) (by kernel_rfl) (by kernel_rfl) (by rfl) (fun _ _ _ h => h) (by rfl) (by intro w; go_simp; with_reducible rfl) hU (fun hU => ?_); (try simp only [Act.put, List.setIfInBounds_toArray, List.set_cons_zero, List.set_cons_succ]); refine AnyS.take (i := 10) rfl (by kernel_rfl) (by kernel_rfl) (by kernel_rfl) (by rfl) (fun _ _ _ h => h) (by rfl) (by intro w; go_simp; with_reducible rfl) hU (fun hU => ?_); (try simp only [Act.put, List.setIfInBounds_toArray, List.set_cons_zero, List.set_cons_succ]); refine AnyS.take (i := 11) rfl (by kernel_rfl) (by kernel_rfl) (by kernel_rfl) (by rfl) (fun _ _ _ h => h) (by rfl) (by intro w; go_simp; with_reducible rfl) hU (fun hU => ?_); (try simp only [Act.put, List.setIfInBounds_toArray, List.set_cons_zero, List.set_cons_succ]); refine AnyS.take (i := 12) rfl (by kernel_rfl) (by kernel_rfl) (by kernel_rfl) (by rfl) (fun _ _ _ h => h) (by rfl) (by intro w; go_simp; with_reducible rfl) hU (fun hU => ?_); (try simp only [Act.put, List.setIfInBounds_toArray, List.set_cons_zero, List.set_cons_succ]))
          rw [IntWalk.u8_in (x : Int) ⟨by omega, by omega⟩]
          (refine AnyS.takeS (i := 13) rfl (by kernel_rfl) (by kernel_rfl) (by kernel_rfl) (by rfl) (by kernel_rfl) (by kernel_rfl) (fun _ _ _ h => h) (by rfl) (by intro W hSw; go_simp; with_reducible rfl) hU (fun hU => ?_); (try simp only [Act.put, List.setIfInBounds_toArray, List.set_cons_zero, List.set_cons_succ]))
          (refine AnyS.take (i := 14) rfl (by kernel_rfl) (by kernel_rfl) (by kernel_rfl) (by rfl) (fun _ _ _ h => h) (by rfl) (by intro w; go_simp; with_reducible rfl) hU (fun hU => ?_); (try simp only [Act.put, List.setIfInBounds_toArray, List.set_cons_zero, List.set_cons_succ]); refine AnyS.take (i := 15) rfl (by kernel_rfl) (by kernel_rfl) (by kernel_rfl) (by rfl) (fun _ _ _ h => h) (by rfl) (by intro w; go_simp; with_reducible rfl) hU (fun hU => ?_); (try simp only [Act.put, List.setIfInBounds_toArray, List.set_cons_zero, List.set_cons_succ]); refine AnyS.take (i := 16) rfl (by kernel_rfl) (by kernel_rfl) (by kernel_rfl) (by rfl) (fun _ _ _ h => h) (by rfl) (by intro w; go_simp; with_reducible rfl) hU (fun hU => ?_); (try simp only [Act.put, List.setIfInBounds_toArray, List.set_cons_zero, List.set_cons_succ]); refine AnyS.take (i := 18) rfl (by kernel_rfl) (by kernel_rfl) (by kernel_rfl) (by rfl) (fun _ _ _ h => h) (by rfl) (by intro w; go_simp; with_reducible rfl) hU (fun hU => ?_); (try simp only [Act.put, List.setIfInBounds_toArray, List.set_cons_zero, List.set_cons_succ]); refine AnyS.take (i := 19) rfl (by kernel_rfl) (by kernel_rfl) (by kernel_rfl) (by rfl) (fun _ _ _ h => h) (by rfl) (by intro w; go_simp; with_reducible rfl) hU (fun hU => ?_); (try simp only [Act.put, List.setIfInBounds_toArray, List.set_cons_zero, List.set_cons_succ]))
          refine AnyS.branch (rs := [17]) (by kernel_rfl) (by simp) (AllS.cons rfl (fun K hK => ?_) AllS.nil)
          go_simp
          refine hK.out _ _ (.inl (HSM.out _ HM2.out.below)) (fun hU => ?_)
          clear hK K d1 f1
          (try simp only [Act.put, List.setIfInBounds_toArray, List.set_cons_zero, List.set_cons_succ])
          (refine AnyS.take (i := 20) rfl (by kernel_rfl) (by kernel_rfl) (by kernel_rfl) (by rfl) (fun _ _ _ h => h) (by rfl) (by intro w; go_simp; with_reducible rfl) hU (fun hU => ?_); (try simp only [Act.put, List.setIfInBounds_toArray, List.set_cons_zero, List.set_cons_succ]))
          refine AnyS.branch (rs := [21]) (by kernel_rfl) (by simp) (AllS.cons rfl (fun K hK => ?_) AllS.nil)
          have d2 := HD2.out
          have f2 := HF2.out
          go_simp
          refine hK.out _ _ (.inl (HSM.out _ HM3.out.below)) (fun hU => ?_)
          clear hK K d2 f2
          (try simp only [Act.put, List.setIfInBounds_toArray, List.set_cons_zero, List.set_cons_succ])
          refine AnyS.done (by kernel_rfl) ?_ _
          clear hU
          go_wp2_with fail
          go_roundw
          case rel => exact ⟨x + 1, by omega, by go_num, HM3.out⟩
          case measure => simp [intOf] <;> omega
        · have hx' : x = m.l := by omega
          subst hx'
          rw [ivM_row hok hwf hlt] at hM
          go_wp2_with fail
          go_roundw
          case rel => exact ⟨q + 1, by omega, by go_num, hM⟩
          case measure => simp [intOf]; omega
    · have hq' : q = m.s := by omega
      subst hq'
      rw [ivM_all] at hM
      have hw1 := invM_wf hok hwf
      have hm1 := hM.mach 0 rfl
      have ht := (hM.at 1 rfl).there 0 (invM m).cells.length (by simp only; rw [zero_len, Mch.cells_length hw1]; omega)
      have HI := Lib.hid (mach_infoT hw1)
      have H1 := Lib.hid (mach_ones (invM m))
      have hM2 := hM.setAll 1 rfl (vs := (invM m).cells) (by rw [zero_len, Mch.cells_length hw1])
      have HB := Lib.hid (hM2.at 1 rfl)
      have HM2 := Lib.hid hM2
      have HI5 : Hid ((Try.prog.info? 29).map (·.size) = some (invM m).cells.toArray.size) := HI.out.trans (by rw [List.size_toArray])
      clear hM2
      go_wp2_with (first | ((with_reducible refine st_row ?_ 29 (.tmp 2) (.tmp 56) ?_ w.heap.size 0 (invM m).cells ?_ ?_ ht HI.out H1.out ?_); exact rfl; exact rfl; exact rfl; exact rfl) | ((with_reducible refine ld_mach ?_ (.tmp 3) ?_ (w.heap.size + 1) 0 ?_ (invM m) hm1 hw1 ?_); exact rfl; exact rfl; exact rfl))
      exact bodyPost_ret (v := .agg (invM m).cells.toArray) (results_cell_row Try.results105 _ _ w.heap.size 29 (invM m).cells.toArray (0, 0) (.struct _) rfl HB.out Try.underlying29 rfl HI5.out) rfl ⟨rfl, HM2.out.below⟩
end Go.Proofs.Yteagecoiijhflaa
