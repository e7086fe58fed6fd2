/- What the laws ask of a result that is a slice of slices of numbers. -/
import Derived.Test.YtmacnofkpdikiaaS1
namespace Go.Proofs.Ytmacnofkpdikiaa
open Go.RowKit
set_option linter.unusedVariables false
set_option linter.unusedSimpArgs false

section
variable {B : Nat} {w0 w : World} {L : List (Nat × List Value × TypeId)} {G : List (Value × TypeId × List Value)}
/-- a call that writes into the row of the slice number i alone -/
theorem Mm.gcall (h : Mm B w0 w L G) (i : Nat) {v : Value} {E : TypeId} {xs ys : List Value} (hi : G[i]? = some (v, E, xs)) {w' : World} (hg : w.grownBy w' v.ownBlock) {n : Nat} (ho : w'.ownsRow B E 1 v n ys) (hn : n = ys.length) : Mm B w0 w' L (G.set i (v, E, ys)) := by
  subst hn
  have hv := mem_of_get hi
  have hblock : ∀ k, k < w.heap.size → v.ownBlock ≠ some k → w'.heap[k]? = w.heap[k]? := fun k hk hne => hg.block k hk (Ne.symm hne)
  have hsym : ∀ x y : Value × TypeId × List Value, (∀ b, x.1.ownBlock = some b → y.1.ownBlock ≠ some b) → ∀ b, y.1.ownBlock = some b → x.1.ownBlock ≠ some b := fun x y h b e e' => h b e' e
  have hmap : (G.set i (v, E, ys)).map (·.1) = G.map (·.1) := by
    rw [List.map_set]
    apply List.ext_getElem?
    intro k
    by_cases hk : k = i
    · subst hk
      have hlt : k < G.length := (List.getElem?_eq_some_iff.1 hi).1
      rw [List.getElem?_set_self (by simpa using hlt), List.getElem?_map, hi]; rfl
    · rw [List.getElem?_set_ne (Ne.symm hk)]
  refine ⟨?_, Nat.le_trans h.size hg.size, fun x hx => ⟨(h.blk x hx).1, (hblock _ (h.blk x hx).2.lt (h.sep _ hv x hx)).trans (h.blk x hx).2⟩, h.dist, fun x hx => ?_, fun x hx y hy => ?_, ?_⟩
  · refine ⟨hg.os.trans h.below.os, hg.tape.trans h.below.tape, hg.output.trans h.below.output, Nat.le_trans h.below.size hg.size, fun k hk => ?_⟩
    have hkw : k < w.heap.size := Nat.lt_of_lt_of_le hk h.size
    exact (hblock k hkw (fun e => by have := (World.ownsRow.lt (h.own _ hv) k e).1; omega)).trans (h.below.block k hk)
  · rcases mem_set_of hx with rfl | ⟨j, hj, hx⟩
    · exact ho
    · have hx' := h.own x (mem_of_get hx)
      refine ⟨hx'.1, ?_⟩
      rcases hx'.2 with hn | ⟨g', cap', cur, hv', h1, h2, rest⟩
      · exact .inl hn
      · have hlt := h.ownlt (mem_of_get hx) (by rw [hv']; rfl : x.1.ownBlock = some g')
        exact .inr ⟨g', cap', cur, hv', h1, (hblock g' hlt (pairwise_get hsym h.gdist hx hi hj g' (by rw [hv']; rfl))).trans h2, rest⟩
  · rcases mem_set_of hx with rfl | ⟨j, hj, hx⟩
    · exact h.sep _ hv y hy
    · exact h.sep x (mem_of_get hx) y hy
  · have hd : (G.map (·.1)).Pairwise (fun x y => ∀ b, x.ownBlock = some b → y.ownBlock ≠ some b) := List.pairwise_map.2 h.gdist
    rw [← hmap] at hd
    exact List.pairwise_map.1 hd
theorem Mm.permL (h : Mm B w0 w L G) {L' : List (Nat × List Value × TypeId)} (hp : L.Perm L') : Mm B w0 w L' G :=
  ⟨h.below, h.size, fun x hx => h.blk x (hp.mem_iff.2 hx), (hp.pairwise_iff (fun h => Ne.symm h)).1 h.dist, h.own, fun x hx y hy => h.sep x hx y (hp.mem_iff.2 hy), h.gdist⟩
theorem Mm.permG (h : Mm B w0 w L G) {G' : List (Value × TypeId × List Value)} (hp : G.Perm G') : Mm B w0 w L G' :=
  ⟨h.below, h.size, h.blk, h.dist, fun x hx => h.own x (hp.mem_iff.2 hx), fun x hx y hy => h.sep x (hp.mem_iff.2 hx) y hy, (hp.pairwise_iff (fun h b e e' => h b e' e)).1 h.gdist⟩
theorem Mm.subG (h : Mm B w0 w L G) {G' : List (Value × TypeId × List Value)} (hs : G'.Sublist G) : Mm B w0 w L G' :=
  ⟨h.below, h.size, h.blk, h.dist, fun x hx => h.own x (hs.subset hx), fun x hx y hy => h.sep x (hs.subset hx) y hy, h.gdist.sublist hs⟩
/-- the same memory, told from later on -/
theorem Mm.since (h : Mm B w0 w L G) : Mm B w w L G := ⟨Below.refl _ _, h.size, h.blk, h.dist, h.own, h.sep, h.gdist⟩
theorem Mm.less (h : Mm B w0 w L G) {C : Nat} (hC : C ≤ B) : Mm C w0 w L G :=
  ⟨h.below.mono hC, Nat.le_trans hC h.size, fun x hx => ⟨Nat.le_trans hC (h.blk x hx).1, (h.blk x hx).2⟩, h.dist, fun x hx => by
    have ho := h.own x hx
    refine ⟨ho.1, ?_⟩
    rcases ho.2 with hn | ⟨g, cap, cur, hv, h1, rest⟩
    · exact .inl hn
    · exact .inr ⟨g, cap, cur, hv, Nat.le_trans hC h1, rest⟩, h.sep, h.gdist⟩
end

/-- the rows of a slice of slices -/
def rowG (rv : List Value) (rows : List (List Int)) : List (Value × TypeId × List Value) := List.zipWith (fun r xs => (r, 2, i64s xs)) rv rows
/-- v is a slice of slices that reads as rows, all in memory from B on that is its own -/
def OwnII (w : World) (B : Nat) (v : Value) (rows : List (List Int)) : Prop := ∃ rv : List Value, rv.length = rows.length ∧ Mm B w w [] ((v, 39, rv) :: rowG rv rows)
/-- v is a slice of slices that reads as rows -/
def SlII (w : World) (v : Value) (rows : List (List Int)) : Prop := ∃ a c, v = .slice a rows.length c ∧ ∀ i, i < rows.length → ∃ b off, a = some ⟨b, off, none⟩ ∧ ∃ a' c', w.cell? ⟨b, off + i, none⟩ = some (.slice a' (rows[i]?.getD []).length c') ∧ IntsAt w a' (rows[i]?.getD [])
theorem SlII.below {w w' : World} {v : Value} {rows : List (List Int)} (h : SlII w v rows) (hb : Below w.heap.size w w') : SlII w' v rows := by
  obtain ⟨a, c, rfl, h⟩ := h
  refine ⟨a, c, rfl, fun i hi => ?_⟩
  obtain ⟨b, off, ha, a', c', hc, hI⟩ := h i hi
  exact ⟨b, off, ha, a', c', (hb.cell (p := ⟨b, off + i, none⟩) (World.block_lt_of_cell? w _ hc)).trans hc, hI.keep hb⟩
theorem rowG_get {rv : List Value} {rows : List (List Int)} (hl : rv.length = rows.length) {i : Nat} (hi : i < rows.length) : (rowG rv rows)[i]? = some (rv[i]?.getD undef, 2, i64s (rows[i]?.getD [])) := by
  simp only [rowG, List.getElem?_zipWith]
  rw [List.getElem?_eq_getElem (by omega : i < rv.length), List.getElem?_eq_getElem hi]
  rfl
theorem OwnI.of_row {w : World} {B : Nat} {v : Value} {xs : List Int} (h : w.ownsRow B 2 1 v (i64s xs).length (i64s xs)) : OwnI w B v xs := by simpa [OwnI, i64s] using h
theorem OwnII.row {w : World} {B : Nat} {v : Value} {rv : List Value} {rows : List (List Int)} (hl : rv.length = rows.length) (h : Mm B w w [] ((v, 39, rv) :: rowG rv rows)) {i : Nat} (hi : i < rows.length) : OwnI w B (rv[i]?.getD undef) (rows[i]?.getD []) :=
  OwnI.of_row (h.own _ (List.mem_cons_of_mem _ (mem_of_get (rowG_get hl hi))))
theorem OwnII.sl {w : World} {B : Nat} {v : Value} {rows : List (List Int)} (h : OwnII w B v rows) : SlII w v rows := by
  obtain ⟨rv, hl, hM⟩ := h
  have ho := hM.own _ (List.mem_cons_self ..)
  simp only at ho
  rcases ho.2 with ⟨rfl, h0⟩ | ⟨g, cap, cur, rfl, h1, hg, h2, h3, h4, h5⟩
  · exact ⟨none, 0, by rw [← hl, h0], fun i hi => by omega⟩
  · refine ⟨some ⟨g, 0, none⟩, cap, by rw [hl], fun i hi => ⟨g, 0, rfl, ?_⟩⟩
    obtain ⟨a', c', e, hI⟩ := (OwnII.row hl hM hi).form
    refine ⟨a', c', ?_, hI⟩
    rw [Nat.zero_add, World.ownsRow.cellAt ho i (by omega), List.getElem?_eq_getElem (by omega : i < rv.length)]
    rw [List.getElem?_eq_getElem (by omega : i < rv.length)] at e
    exact congrArg some e
theorem OwnII.below {w w' : World} {B : Nat} {v : Value} {rows : List (List Int)} (h : OwnII w B v rows) (hb : Below w.heap.size w w') : OwnII w' B v rows := by
  obtain ⟨rv, hl, hM⟩ := h
  exact ⟨rv, hl, (hM.call hb).since⟩
theorem OwnII.less {w : World} {B C : Nat} {v : Value} {rows : List (List Int)} (h : OwnII w B v rows) (hC : C ≤ B) : OwnII w C v rows := by
  obtain ⟨rv, hl, hM⟩ := h
  exact ⟨rv, hl, hM.less hC⟩
theorem OwnII.nil (w : World) (B : Nat) (hB : B ≤ w.heap.size) : OwnII w B (.slice none 0 0) [] :=
  ⟨[], rfl, ⟨Below.refl _ _, hB, fun _ h => (by cases h), List.Pairwise.nil, fun x hx => by rw [List.mem_singleton.1 (show x ∈ [_] from hx)]; exact World.ownsRow_nil _ _ _ _, fun _ _ _ h => (by cases h), List.pairwise_singleton _ _⟩⟩

set_option maxHeartbeats 1000000 in
theorem eqIQ_same (a b : Option Addr) (c d : Nat) (xs : List Int) (hx : xs.length ≤ 2000000) (w : World) (ha : IntsAt w a xs) (hb : IntsAt w b xs) :
    Calls Try.prog 36 #[.slice a xs.length c, .slice b xs.length d] w (RetQ (.bool true) w) := by
  have HA := Lib.hid ha
  have HB := Lib.hid hb
  clear ha hb
  go_enter Try.func36, Try.ntmps36
  go_wp2
  go_loopw [5] (fun i wr => ∃ k : Nat, k ≤ xs.length ∧ i = .int .i64 k ∧ Hid (∃ n, wr = w.drewN n)) (fun i _ => xs.length - (intOf i).toNat)
  case atStart => exact ⟨0, Nat.zero_le _, rfl, 0, rfl⟩
  case round =>
    obtain ⟨k, hk, rfl, HW⟩ := hrel
    by_cases hlt : k < xs.length
    · obtain ⟨g, off, rfl, hc⟩ := HA.out k hlt
      obtain ⟨g', off', rfl, hc'⟩ := HB.out k hlt
      have hcell : ∀ a, wr.cell? a = w.cell? a := fun a => by obtain ⟨n, hn⟩ := HW.out; rw [hn]; rfl
      rw [← hcell] at hc hc'
      clear hcell
      have i1 : (0 : Int) ≤ (k : Int) := by omega
      have i2 : (k : Int) < (xs.length : Int) := by omega
      generalize xs[k]?.getD 0 = x at *
      go_wp2
      go_quiet (fail)
      go_wp2
      go_roundw
      case rel => exact ⟨k + 1, by omega, by go_num, by obtain ⟨n, hn⟩ := HW.out; rw [hn]; exact dN2 _ _ _⟩
      case measure => simp [intOf] <;> omega
    · go_wp2
      go_ret
      exact ⟨rfl, HW.out⟩

set_option maxHeartbeats 1000000 in
theorem eqII_same (a b : Value) (rows : List (List Int)) (hn : rows.length ≤ 2000000) (hx : ∀ i : Nat, (rows[i]?.getD []).length ≤ 2000000) (w : World) (ha : SlII w a rows) (hb : SlII w b rows) :
    Calls Try.prog 45 #[a, b] w (RetQ (.bool true) w) := by
  obtain ⟨a, c, rfl, hA⟩ := ha
  obtain ⟨b, d, rfl, hB⟩ := hb
  have HA := Lib.hid hA
  have HB := Lib.hid hB
  have HX := Lib.hid hx
  clear hA hB hx
  go_enter Try.func45, Try.ntmps45
  go_wp2
  go_loopw [5] (fun i wr => ∃ k : Nat, k ≤ rows.length ∧ i = .int .i64 k ∧ Hid (∃ n, wr = w.drewN n)) (fun i _ => rows.length - (intOf i).toNat)
  case atStart => exact ⟨0, Nat.zero_le _, rfl, 0, rfl⟩
  case round =>
    obtain ⟨k, hk, rfl, HW⟩ := hrel
    by_cases hlt : k < rows.length
    · obtain ⟨g, off, rfl, a1, c1, hc, hI⟩ := HA.out k hlt
      obtain ⟨g', off', rfl, a2, c2, hc', hI'⟩ := HB.out k hlt
      have HE : Hid (∀ n, Calls Try.prog 36 #[.slice a1 (rows[k]?.getD []).length c1, .slice a2 (rows[k]?.getD []).length c2] (wr.drewN n) (RetQ (.bool true) (wr.drewN n))) := fun n => by
        obtain ⟨m, hm⟩ := HW.out
        rw [hm]
        exact eqIQ_same a1 a2 c1 c2 _ (HX.out k) _ hI hI'
      have hcell : ∀ a, wr.cell? a = w.cell? a := fun a => by obtain ⟨n, hn⟩ := HW.out; rw [hn]; rfl
      rw [← hcell] at hc hc'
      clear hcell hI hI'
      have i1 : (0 : Int) ≤ (k : Int) := by omega
      have i2 : (k : Int) < (rows.length : Int) := by omega
      generalize (rows[k]?.getD []).length = len at *
      go_wp2_with fail
      go_quiet ((go_at_call 36; exact Calls.quiet_of (HE.out _)))
      go_wp2_with fail
      go_roundw
      case rel => exact ⟨k + 1, by omega, by go_num, by obtain ⟨n, hn⟩ := HW.out; rw [hn]; exact dN2 _ _ _⟩
      case measure => simp [intOf] <;> omega
    · go_wp2_with fail
      go_ret
      exact ⟨rfl, HW.out⟩

/-- how many numbers there are in the first i rows -/
def sumLen (rows : List (List Int)) (i : Nat) : Nat := ((rows.take i).map List.length).sum
theorem sumLen_succ (rows : List (List Int)) (i : Nat) (h : i < rows.length) : sumLen rows (i + 1) = sumLen rows i + (rows[i]?.getD []).length := by
  simp only [sumLen]
  rw [List.take_succ_eq_append_getElem h, List.map_append, List.sum_append, List.getElem?_eq_getElem h]
  simp
theorem sumLen_le (rows : List (List Int)) (i : Nat) : sumLen rows i ≤ sumLen rows rows.length := by
  simp only [sumLen, List.take_length]
  have h := List.take_append_drop i rows
  conv => rhs; rw [← h, List.map_append, List.sum_append]
  omega
/-- the rows marked, from k on: i rows done -/
def mixII (k i : Nat) (rows : List (List Int)) : List (List Int) := (List.range rows.length).map fun j => if j < i then marks (k + sumLen rows j) (rows[j]?.getD []).length else rows[j]?.getD []
theorem mixII_len (k i : Nat) (rows : List (List Int)) : (mixII k i rows).length = rows.length := by simp [mixII]
theorem mixII_get (k i : Nat) (rows : List (List Int)) {j : Nat} (h : j < rows.length) : (mixII k i rows)[j]?.getD [] = if j < i then marks (k + sumLen rows j) (rows[j]?.getD []).length else rows[j]?.getD [] := by
  simp [mixII, h]
theorem mixII_zero (k : Nat) (rows : List (List Int)) : mixII k 0 rows = rows := by
  apply List.ext_getElem
  · rw [mixII_len]
  · intro j h1 h2
    simp [mixII, h2]
theorem mixII_set (k i : Nat) (rows : List (List Int)) (h : i < rows.length) : (mixII k i rows).set i (marks (k + sumLen rows i) (rows[i]?.getD []).length) = mixII k (i + 1) rows := by
  apply List.ext_getElem
  · simp [mixII_len]
  · intro j h1 h2
    rw [List.getElem_set]
    simp only [mixII, List.getElem_map, List.getElem_range]
    by_cases e : i = j
    · subst e; rw [if_pos rfl, if_pos (by omega)]
    · rw [if_neg e]
      by_cases h3 : j < i
      · rw [if_pos h3, if_pos (by omega)]
      · rw [if_neg h3, if_neg (by omega)]
theorem rowG_set (rv : List Value) (rows : List (List Int)) (i : Nat) (xs : List Int) (hl : rv.length = rows.length) (hi : i < rows.length) : (rowG rv rows).set i (rv[i]?.getD undef, 2, i64s xs) = rowG rv (rows.set i xs) := by
  apply List.ext_getElem?
  intro j
  by_cases e : j = i
  · subst e
    rw [List.getElem?_set_self (by simp [rowG]; omega), rowG_get (by simpa using hl) (by simpa using hi), List.getElem?_set_self hi]
    rfl
  · rw [List.getElem?_set_ne (Ne.symm e)]
    simp only [rowG, List.getElem?_zipWith, List.getElem?_set_ne (Ne.symm e)]

set_option maxHeartbeats 1000000 in
theorem markI2_any (B : Nat) (v : Value) (xs : List Int) (k : Nat) (hx : xs.length ≤ 1000000) (hk : k ≤ 1000000) (w : World) (h : OwnI w B v xs) :
    Calls Try.prog 37 #[v, .int .i64 (k : Int)] w fun e w' => e = .returned (.int .i64 ((k + xs.length : Nat) : Int)) ∧ w.grownBy w' v.ownBlock ∧ OwnI w' B v (marks k xs.length) := by
  obtain ⟨a, c, rfl, -⟩ := h.form
  have H0 : Hid (OwnI w B (.slice a xs.length c) (mixM k 0 xs)) := by
    show OwnI _ _ _ _
    simpa [mixM, marks] using h
  clear h
  go_enter Try.func37, Try.ntmps37
  go_wp2
  go_loopw [1, 5] (fun u i wr => ∃ j : Nat, j ≤ xs.length ∧ i = .int .i64 j ∧ u = .int .i64 ((k + j : Nat) : Int) ∧ Hid (w.grownBy wr (Value.slice a xs.length c).ownBlock) ∧ Hid (OwnI wr B (.slice a xs.length c) (mixM k j xs))) (fun _ i _ => xs.length - (intOf i).toNat)
  case atStart => exact ⟨0, Nat.zero_le _, rfl, rfl, ⟨rfl, rfl, rfl, Nat.le_refl _, fun _ _ _ => rfl⟩, H0⟩
  case round =>
    clear H0
    obtain ⟨j, hj, rfl, rfl, HG, HO⟩ := hrel
    by_cases hlt : j < xs.length
    · have hO := HO.out
      have hlen := mixM_length k j xs hj
      obtain ⟨g, rfl, hgB⟩ : ∃ g, a = some ⟨g, 0, none⟩ ∧ B ≤ g := by
        rcases hO.2 with ⟨_, e⟩ | ⟨g, cap, cur, hv, h1, rest⟩
        · omega
        · simp at hv; exact ⟨g, hv.1, h1⟩
      have hO' : wr.ownsRow B 2 1 (.slice (some ⟨g, 0, none⟩) xs.length c) xs.length (i64s (mixM k j xs)) := by
        have := hO; rw [OwnI, hlen] at this; exact this
      have hcell := hO'.cellAt j (by omega)
      rw [i64s_get (by omega)] at hcell
      have hfz := hO'.frozenAt j
      have hset : Hid (OwnI (wr.setCell ⟨g, j, none⟩ (.int .i64 ((k + j : Nat) : Int))) B (.slice (some ⟨g, 0, none⟩) xs.length c) (mixM k (j + 1) xs)) := by
        have := (hO'.stored j (.int .i64 ((k + j : Nat) : Int))).1
        rw [mixM_succ k j xs hlt] at this
        show World.ownsRow _ _ _ _ _ _ _
        rw [mixM_length k (j + 1) xs hlt]
        exact this
      have HG2 : Hid (w.grownBy (wr.setCell ⟨g, j, none⟩ (.int .i64 ((k + j : Nat) : Int))) (Value.slice (some ⟨g, 0, none⟩) xs.length c).ownBlock) := by
        have hg := HG.out
        refine ⟨hg.os, hg.tape, hg.output, by have := hg.size; simpa [World.setCell] using this, fun b hb hne => ?_⟩
        have : b ≠ g := fun e => hne (by rw [e]; rfl)
        exact (heap_setCell_other wr ⟨g, j, none⟩ b _ this).trans (hg.block b hb hne)
      have i1 : (0 : Int) ≤ (j : Int) := by omega
      have i2 : (j : Int) < (xs.length : Int) := by omega
      obtain ⟨z, hz⟩ : ∃ z, (mixM k j xs)[j]?.getD 0 = z := ⟨_, rfl⟩
      rw [hz] at hcell
      clear hz hO hO' hlen
      go_wp2
      go_roundw
      case rel => exact ⟨j + 1, by omega, by go_num, by go_num, HG2, hset⟩
      case measure => simp [intOf]; omega
    · have hj' : j = xs.length := by omega
      subst hj'
      rw [mixM_all] at HO
      go_wp2
      go_ret
      exact ⟨rfl, HG.out, HO.out⟩

set_option maxHeartbeats 1000000 in
theorem markII_any (B : Nat) (v : Value) (rows : List (List Int)) (k : Nat) (hn : rows.length ≤ 500000) (hs : sumLen rows rows.length ≤ 500000) (hk : k ≤ 100) (w : World) (h : OwnII w B v rows) :
    Calls Try.prog 46 #[v, .int .i64 (k : Int)] w fun e w' => e = .returned (.int .i64 ((k + sumLen rows rows.length : Nat) : Int)) ∧ Below B w w' ∧ OwnII w' B v (mixII k rows.length rows) := by
  obtain ⟨a, c, rfl, -⟩ := h.sl
  obtain ⟨rv, hl, hM⟩ := h
  have H0 : Hid (Mm B w w [] ((.slice a rows.length c, 39, rv) :: rowG rv (mixII k 0 rows))) := by rw [mixII_zero]; exact hM
  clear hM
  go_enter Try.func46, Try.ntmps46
  go_wp2_with fail
  go_loopw [1, 5] (fun u i wr => ∃ j : Nat, j ≤ rows.length ∧ i = .int .i64 j ∧ u = .int .i64 ((k + sumLen rows j : Nat) : Int) ∧ Hid (Mm B w wr [] ((.slice a rows.length c, 39, rv) :: rowG rv (mixII k j rows)))) (fun _ i _ => rows.length - (intOf i).toNat)
  case atStart => exact ⟨0, Nat.zero_le _, rfl, rfl, H0⟩
  case round =>
    clear H0
    obtain ⟨j, hj, rfl, rfl, HM⟩ := hrel
    by_cases hlt : j < rows.length
    · have hlm := mixII_len k j rows
      have ho := HM.out.own _ (List.mem_cons_self ..)
      simp only at ho
      obtain ⟨g, rfl⟩ : ∃ g, a = some ⟨g, 0, none⟩ := by
        rcases ho.2 with ⟨_, e⟩ | ⟨g, cap, cur, hv, h1, rest⟩
        · omega
        · simp at hv; exact ⟨g, hv.1⟩
      rw [hl] at ho
      have hcell := World.ownsRow.cellAt ho j (by omega)
      have hrow := rowG_get (rv := rv) (rows := mixII k j rows) (by rw [hlm]; exact hl) (i := j) (by rw [hlm]; exact hlt)
      rw [mixII_get k j rows hlt, if_neg (by omega)] at hrow
      have hown : OwnI wr B (rv[j]?.getD undef) (rows[j]?.getD []) := OwnI.of_row (HM.out.own _ (List.mem_cons_of_mem _ (mem_of_get hrow)))
      have hcell' : wr.cell? ⟨g, j, none⟩ = some (rv[j]?.getD undef) := by rw [hcell, List.getElem?_eq_getElem (by omega : j < rv.length)]; rfl
      obtain ⟨a', c', e, -⟩ := id hown.form
      have hss := sumLen_succ rows j hlt
      have hsl := sumLen_le rows (j + 1)
      have HSTEP : Hid (∀ w', wr.grownBy w' (rv[j]?.getD undef).ownBlock → OwnI w' B (rv[j]?.getD undef) (marks (k + sumLen rows j) (rows[j]?.getD []).length) → Mm B w w' [] ((.slice (some ⟨g, 0, none⟩) rows.length c, 39, rv) :: rowG rv (mixII k (j + 1) rows))) := fun w' hg ho' => by
        have h1 := HM.out.gcall (j + 1) (by rw [List.getElem?_cons_succ]; exact hrow) hg (n := (i64s (marks (k + sumLen rows j) (rows[j]?.getD []).length)).length) (ys := i64s (marks (k + sumLen rows j) (rows[j]?.getD []).length)) (by simpa [OwnI, i64s] using ho') rfl
        rw [List.set_cons_succ, rowG_set rv (mixII k j rows) j _ (by rw [hlm]; exact hl) (by rw [hlm]; exact hlt), mixII_set k j rows hlt] at h1
        exact h1
      have HOWN := Lib.hid hown
      have i1 : (0 : Int) ≤ (j : Int) := by omega
      have i2 : (j : Int) < (rows.length : Int) := by omega
      have HSS := Lib.hid hss
      have hlen : (rows[j]?.getD []).length ≤ 500000 := by omega
      have hacc : k + sumLen rows j ≤ 1000000 := by omega
      clear hown ho hcell hrow HM hss hsl
      generalize rv[j]?.getD undef = r at *
      generalize rows[j]?.getD [] = xs at *
      subst e
      go_wp2_with fail
      refine (markI2_any B _ xs (k + sumLen rows j) (by omega) hacc _ HOWN.out).mono ?_
      rintro e w1 ⟨rfl, hg, ho'⟩
      have HM1 := Lib.hid (HSTEP.out w1 hg ho')
      clear hg ho' hcell'
      go_wp2_with fail
      go_roundw
      case rel => exact ⟨j + 1, by omega, by go_num, by rw [HSS.out]; exact vint (by omega), HM1⟩
      case measure => simp [intOf] <;> omega
    · have hj' : j = rows.length := by omega
      subst hj'
      go_wp2_with fail
      go_ret
      exact ⟨rfl, HM.out.below, rv, by rw [mixII_len]; exact hl, HM.out.since⟩

set_option maxHeartbeats 1000000 in
theorem heldII_any (B : Nat) (v : Value) (rows : List (List Int)) (k : Nat) (hn : rows.length ≤ 500000) (hs : sumLen rows rows.length ≤ 500000) (hk : k ≤ 100) (w : World) (h : OwnII w B v (mixII k rows.length rows)) :
    Calls Try.prog 47 #[v, .int .i64 (k : Int)] w (Ret (.int .i64 ((k + sumLen rows rows.length : Nat) : Int)) w) := by
  obtain ⟨a, c, rfl, -⟩ := h.sl
  rw [mixII_len]
  obtain ⟨rv, hl, hM⟩ := h
  rw [mixII_len] at hl hM
  have HM := Lib.hid hM
  clear hM
  go_enter Try.func47, Try.ntmps47
  go_wp2_with fail
  go_loopw [1, 5] (fun u i wr => ∃ j : Nat, j ≤ rows.length ∧ i = .int .i64 j ∧ u = .int .i64 ((k + sumLen rows j : Nat) : Int) ∧ Below w.heap.size w wr) (fun _ i _ => rows.length - (intOf i).toNat)
  case atStart => exact ⟨0, Nat.zero_le _, rfl, rfl, Below.refl _ _⟩
  case round =>
    obtain ⟨j, hj, rfl, rfl, hb⟩ := hrel
    by_cases hlt : j < rows.length
    · have hlm := mixII_len k rows.length rows
      have hM := (HM.out.call hb)
      have ho := hM.own _ (List.mem_cons_self ..)
      simp only at ho
      obtain ⟨g, rfl⟩ : ∃ g, a = some ⟨g, 0, none⟩ := by
        rcases ho.2 with ⟨_, e⟩ | ⟨g, cap, cur, hv, h1, rest⟩
        · omega
        · simp at hv; exact ⟨g, hv.1⟩
      rw [hl] at ho
      have hcell := World.ownsRow.cellAt ho j (by omega)
      have hrow := rowG_get (rv := rv) (rows := mixII k rows.length rows) (by rw [hlm]; exact hl) (i := j) (by rw [hlm]; exact hlt)
      rw [mixII_get k rows.length rows hlt, if_pos hlt] at hrow
      have hown : OwnI wr B (rv[j]?.getD undef) (marks (k + sumLen rows j) (rows[j]?.getD []).length) := OwnI.of_row (hM.own _ (List.mem_cons_of_mem _ (mem_of_get hrow)))
      have hcell' : wr.cell? ⟨g, j, none⟩ = some (rv[j]?.getD undef) := by rw [hcell, List.getElem?_eq_getElem (by omega : j < rv.length)]; rfl
      obtain ⟨a', c', e, -⟩ := id hown.form
      have hss := sumLen_succ rows j hlt
      have hsl := sumLen_le rows (j + 1)
      have HOWN := Lib.hid hown
      have i1 : (0 : Int) ≤ (j : Int) := by omega
      have i2 : (j : Int) < (rows.length : Int) := by omega
      have HSS := Lib.hid hss
      have hlen : (rows[j]?.getD []).length ≤ 500000 := by omega
      have hacc : k + sumLen rows j ≤ 1000000 := by omega
      clear hown ho hcell hrow hM hss hsl
      generalize rv[j]?.getD undef = r at *
      generalize (rows[j]?.getD []).length = len at *
      rw [marks_length] at e
      subst e
      go_wp2_with fail
      refine (heldI_any B _ (k + sumLen rows j) len (by omega) hacc _ HOWN.out).mono ?_
      rintro e w1 ⟨rfl, hb1⟩
      have hbb := hb.trans (hb1.mono hb.size)
      clear hcell'
      go_wp2_with fail
      go_roundw
      case rel => exact ⟨j + 1, by omega, by go_num, by rw [HSS.out]; exact vint (by omega), hbb⟩
      case measure => simp [intOf] <;> omega
    · have hj' : j = rows.length := by omega
      subst hj'
      go_wp2_with fail
      go_ret
      exact ⟨rfl, hb⟩
end Go.Proofs.Ytmacnofkpdikiaa
