import Derived.Test.YteagecoiijhflaaZLOrderOf13
import Derived.Test.YteagecoiijhflaaZLOrderOf19
import Derived.Deep.Matrix
import Derived.Deep.Strs
import Derived.OpenShut
/- Slices of slices of numbers among a law's arguments. -/
namespace Go.Proofs.Yteagecoiijhflaa
open Go.ChangeShapes Go.WideShapes Go.ChangeAt Go.RowKit Go.Joins
set_option linter.unusedVariables false
set_option linter.unusedSimpArgs false

/-- what the size of rows says -/
def SzII (rows : List Wd) (r : Int) : Prop := r = -1 ∨ (0 ≤ r ∧ rows.length ≤ 1048576 ∧ ∀ i : Nat, (rows[i]?.getD []).length ≤ 1048576)
set_option maxHeartbeats 1000000 in
theorem szInt64SS_any (v : Value) (rows : List Wd) (left : Int) (h0 : 0 ≤ left) (h1 : left ≤ 1048576) (hn : rows.length ≤ 9223372036854775807) (hx : ∀ i : Nat, (rows[i]?.getD []).length ≤ 9223372036854775807) (w : World) (hS : SlII w v rows) :
    Calls Try.prog 23 #[v, .int .i64 left] w fun e w' => ∃ r : Int, e = .returned (.int .i64 r) ∧ SzII rows r ∧ w = w' := by
  obtain ⟨a, c, rfl, hc⟩ := hS
  have HC := Lib.hid hc
  have HX := Lib.hid hx
  clear hc hx
  go_enter Try.func23, Try.ntmps23
  by_cases hl : left < rows.length
  · have hl' : left - (rows.length : Int) < 0 := by omega
    have i1 : -9223372036854775808 ≤ left - (rows.length : Int) := by omega
    go_wp2_with fail
    go_ret
    exact ⟨-1, rfl, .inl rfl, rfl⟩
  · have hl' : ¬ left - (rows.length : Int) < 0 := by omega
    have hlen : rows.length ≤ 1048576 := by omega
    obtain ⟨l0, hl0⟩ : ∃ l0 : Int, l0 = left - (rows.length : Int) := ⟨_, rfl⟩
    have i2 : l0 ≤ 1048576 := by omega
    have i3 : 0 ≤ l0 := by omega
    have e0 : IntKind.i64.wrap (left - (rows.length : Int)) = l0 := by rw [IntWalk.i64_in _ (by omega), hl0]
    go_wp2_with fail
    go_loop [1, 5] (fun l i => ∃ (j : Nat) (r : Int), j ≤ rows.length ∧ i = .int .i64 j ∧ l = .int .i64 r ∧ 0 ≤ r ∧ r ≤ 1048576 ∧ Hid (∀ i : Nat, i < j → (rows[i]?.getD []).length ≤ 1048576)) (fun _ i => rows.length - (intOf i).toNat)
    case atStart => exact ⟨0, _, Nat.zero_le _, rfl, rfl, by omega, by omega, fun i h => by omega⟩
    case round =>
      clear e0
      obtain ⟨j, r, hj, rfl, rfl, hr0, hr1, HE⟩ := hrel
      by_cases hlt : j < rows.length
      · obtain ⟨bb, off, rfl, a', c', e1, e2⟩ := HC.out j hlt
        have HZ := Lib.hid (szInt64S_any a' (rows[j]?.getD []).length c' r hr0 hr1 (HX.out j) w)
        have j1 : (0 : Int) ≤ (j : Int) := by omega
        have j2 : (j : Int) < (rows.length : Int) := by omega
        have HN : Hid ((rows[j]?.getD []).length ≤ 1048576 → ∀ i : Nat, i < j + 1 → (rows[i]?.getD []).length ≤ 1048576) := fun h i hi => by
          by_cases e : i = j
          · subst e; exact h
          · exact HE.out i (by omega)
        clear e2
        generalize (rows[j]?.getD []).length = n at *
        by_cases hle : r < (n : Int)
        · rw [if_pos hle] at HZ
          go_wp2_with fail
          refine HZ.out.mono ?_
          rintro e w' ⟨rfl, rfl⟩
          clear HZ
          go_wp2_with fail
          go_ret
          exact ⟨-1, rfl, .inl rfl, rfl⟩
        · rw [if_neg hle] at HZ
          obtain ⟨r', hr'⟩ : ∃ r' : Int, r' = r - (n : Int) := ⟨_, rfl⟩
          rw [← hr'] at HZ
          have k1 : 0 ≤ r' := by omega
          have k2 : r' ≤ 1048576 := by omega
          have k3 : ¬ r' < 0 := by omega
          have HN2 := Lib.hid (HN.out (by omega))
          clear hr' HN hle
          go_wp2_with fail
          refine HZ.out.mono ?_
          rintro e w' ⟨rfl, rfl⟩
          clear HZ e1
          go_wp2_with fail
          go_round
          case rel => exact ⟨j + 1, r', by omega, by go_num, rfl, k1, k2, HN2.out⟩
          case measure => simp [intOf] <;> omega
      · have HN : Hid (∀ i : Nat, (rows[i]?.getD []).length ≤ 1048576) := fun i => by
          by_cases hi : i < rows.length
          · exact HE.out i (by omega)
          · rw [List.getElem?_eq_none (by omega)]; simp
        go_wp2_with fail
        go_ret
        exact ⟨r, rfl, .inr ⟨hr0, hlen, HN.out⟩, rfl⟩

/-- 'make([][]int64, n)' -/
theorem mkII (n : Nat) (hn : n ≤ 2000000) (u : World) : (Instr.makeSlice 35 (.int .i64 (n : Int)) (.int .i64 (n : Int))).run Try.prog u =
    .ok (.slice (some ⟨u.heap.size, 0, none⟩) n n) (u.alloc (.cells (madeCells #[.slice none 0 0] n) 26)) := by
  obtain ⟨i0, hi, hz0, hz1, hz2⟩ := info_parts Try.info26
  have h := run_make (P := Try.prog) u 35 26 i0 (.slice none 0 0) Try.underlying35 hi hz0 .i64 .i64 (n : Int) (n : Int) (by omega) (Int.le_refl _) (by rw [hz2]; omega) (by omega)
  simpa [hz1, Value.cells] using h
theorem madeII (n : Nat) : (madeCells #[Value.slice none 0 0] n).toList = List.replicate n (.slice none 0 0) := by
  simp only [madeCells, Array.toList_map, Array.toList_range]
  apply List.ext_getElem?
  intro i
  by_cases hi : i < n <;> simp [hi, Nat.mod_one]
theorem slII_of {B : Nat} {w0 w : World} {b : Nat} {rv : List Value} {rows : List Wd} (h : Mm B w0 w [(b, rv, 26)] (rowG rv rows)) (hl : rv.length = rows.length) : SlII w (.slice (some ⟨b, 0, none⟩) rows.length rows.length) rows := by
  refine ⟨_, _, rfl, fun i hi => ⟨b, 0, rfl, ?_⟩⟩
  have hrow : OwnI w B (rv[i]?.getD undef) (rows[i]?.getD []) := OwnI.of_row (h.own _ (mem_of_get (rowG_get hl hi)))
  obtain ⟨a, d, e', hI⟩ := hrow.form
  refine ⟨a, d, ?_, hI⟩
  rw [Nat.zero_add]
  have := (h.at 0 rfl).cell' (i := i) (v := rv[i]?.getD undef) (by simp only; rw [List.getElem?_eq_getElem (by omega)]; rfl)
  rw [this, e']

set_option maxRecDepth 100000 in
set_option maxHeartbeats 2000000 in
theorem toInt64SS_any (v : Value) (rows : List Wd) (hn : rows.length ≤ 1100000) (hx : ∀ i : Nat, (rows[i]?.getD []).length ≤ 1100000) (w : World) (hS : SlII w v rows) :
    Calls Try.prog 25 #[v] w fun e w' => ∃ v', e = .returned v' ∧ Below w.heap.size w w' ∧ SlII w' v' rows := by
  obtain ⟨a, c, rfl, hc⟩ := hS
  have HC := Lib.hid hc
  have HX := Lib.hid hx
  have hmk := mkII rows.length (by omega) w
  have hM0 := (Mm.start w).alloc (madeCells #[.slice none 0 0] rows.length) 26
  rw [madeII] at hM0
  clear hc hx
  go_enter Try.func25, Try.ntmps25
  go_wp2_with fail
  clear hmk
  go_loopw [4] (fun i wr => ∃ (j : Nat) (rv : List Value), j ≤ rows.length ∧ i = .int .i64 j ∧ Mm w.heap.size w wr [(w.heap.size, rv ++ List.replicate (rows.length - j) (.slice none 0 0), 26)] (rowG rv (rows.take j)) ∧ Hid (rv.length = j)) (fun i _ => rows.length - (intOf i).toNat)
  case atStart => exact ⟨0, [], Nat.zero_le _, rfl, by simpa [rowG] using hM0, rfl⟩
  case round =>
    clear hM0
    obtain ⟨j, rv, hj, rfl, hM, HL⟩ := hrel
    by_cases hlt : j < rows.length
    · obtain ⟨bb, off, rfl, a', c', e1, e2⟩ := HC.out j hlt
      have e1 := (hM.below.cell (World.block_lt_of_cell? w _ e1)).trans e1
      have HT := Lib.hid (toInt64S_any a' (rows[j]?.getD []) c' (HX.out j) wr (e2.keep hM.below))
      have i1 : (0 : Int) ≤ (j : Int) := by omega
      have i2 : (j : Int) < (rows.length : Int) := by omega
      have htk : rows.take (j + 1) = rows.take j ++ [rows[j]?.getD []] := by rw [List.take_succ_eq_append_getElem hlt, List.getElem?_eq_getElem hlt]; rfl
      have HTK := Lib.hid htk
      clear htk e2
      generalize rows[j]?.getD [] = r at *
      go_wp2_with fail
      refine HT.out.mono ?_
      rintro e w1 ⟨v1, rfl, hb1, hO1⟩
      have hM1 := hM.callOwn hb1 hO1 (by simp [i64s])
      have hB := hM1.at 0 rfl
      have hcell : (rv ++ List.replicate (rows.length - j) (Value.slice none 0 0))[j]? = some (.slice none 0 0) := by
        rw [List.getElem?_append_right (by rw [HL.out]; omega), HL.out, Nat.sub_self, List.getElem?_replicate, if_pos (by omega)]
      have c1 := hB.cell' hcell
      have f1 := hB.free j
      have hset : (rv ++ List.replicate (rows.length - j) (Value.slice none 0 0)).set j v1 = (rv ++ [v1]) ++ List.replicate (rows.length - (j + 1)) (.slice none 0 0) := by
        rw [List.set_append_right _ _ (by rw [HL.out]; omega), HL.out, Nat.sub_self, show rows.length - j = (rows.length - (j + 1)) + 1 by omega, List.replicate_succ, List.set_cons_zero, List.append_assoc]; rfl
      have hM2 := hM1.setCell 0 rfl j v1
      simp only [List.set_cons_zero] at hM2
      rw [hset] at hM2
      have HM2 : Hid (Mm w.heap.size w (w1.setCell ⟨w.heap.size, j, none⟩ v1) [(w.heap.size, (rv ++ [v1]) ++ List.replicate (rows.length - (j + 1)) (.slice none 0 0), 26)] (rowG (rv ++ [v1]) (rows.take (j + 1)))) := by
        rw [HTK.out, rowG_snoc v1 r (by rw [HL.out, List.length_take]; omega)]
        exact hM2.permG (List.perm_append_singleton _ _).symm
      obtain ⟨a1, d1, rfl, -⟩ := hO1.form
      clear hM hM1 hM2 hB hset hcell HT hO1 e1 hb1
      go_wp2_with fail
      go_roundw
      case rel => exact ⟨j + 1, rv ++ [.slice a1 r.length d1], by omega, by go_num, HM2.out, (by show _ = _; rw [List.length_append, HL.out]; rfl)⟩
      case measure => simp [intOf] <;> omega
    · have hj' : j = rows.length := by omega
      subst hj'
      rw [List.take_length, Nat.sub_self, List.replicate_zero, List.append_nil] at hM
      have HR := Lib.hid (slII_of hM HL.out)
      have hb := hM.below
      clear hM
      go_wp2_with fail
      go_ret
      exact ⟨_, rfl, hb, HR.out⟩

section
variable {H : Type} {enc : TypeId × Value → H} {w : World} {base : Nat} {held : Bool}
theorem rows_of_trod {n : Nat} {cs : List Value} {y : DataW H × List MemPlace} (h : DataW.trod enc Try.prog w base (fun _ => true) held n 35 cs = some y) :
    ∃ v rows, cs = [v] ∧ SlII w v rows ∧ rows.length ≤ 9223372036854775807 ∧ ∀ i : Nat, (rows[i]?.getD []).length ≤ 9223372036854775807 := by
  rcases Go.Deep.open_int_rows Try.underlying35 Try.underlying26 Try.underlying2 (by kernel_rfl) (by kernel_rfl) h with ⟨rfl, _⟩ | ⟨a, len, cap, A, L, C, Z, rfl, _, hl, hm, _, hr⟩
  · exact ⟨_, [], rfl, ⟨none, 0, rfl, fun i hi => by simp at hi⟩, by simp, fun i => by simp⟩
  · unfold maxLen at hm
    have hlen : ((List.range len).map fun r => (Z r).take (L r)).length = len := by simp
    have hrow : ∀ i, i < len → ((List.range len).map fun r => (Z r).take (L r))[i]?.getD [] = (Z i).take (L i) := fun i hi => by simp [hi]
    have hL : ∀ i, i < len → ((Z i).take (L i)).length = L i := fun i hi => by
      obtain ⟨_, h2, h3, h4, _⟩ := hr i (by omega)
      rw [List.length_take]; omega
    refine ⟨_, (List.range len).map fun r => (Z r).take (L r), rfl, ⟨some a, cap, by rw [hlen], fun i hi => ?_⟩, by rw [hlen]; omega, fun i => ?_⟩
    · rw [hlen] at hi
      obtain ⟨h1, h2, h3, h4, h5, h6, h7⟩ := hr i (by omega)
      obtain ⟨b, off, spot⟩ := a
      have hspot : spot = none := by simpa [Addr.add] using World.cell?_spot (hr 0 (by omega)).1
      subst hspot
      have hc1 : w.cell? ⟨b, off + i, none⟩ = some (.slice (A i) (L i) (C i)) := by rw [← Go.WideShapes.add_plain]; exact h1
      refine ⟨b, off, rfl, A i, C i, by rw [hc1, hrow i hi, hL i hi], ?_⟩
      rw [hrow i hi]
      intro k hk
      rw [hL i hi] at hk
      have hcp : 0 < C i := by omega
      cases hA : A i with
      | none => have := h6 hA; omega
      | some a' =>
        have hc2 := (h7 a' hA).2
        obtain ⟨b', off', spot'⟩ := a'
        have hspot' : spot' = none := by simpa [Addr.add] using World.cell?_spot (hc2 0 hcp)
        subst hspot'
        refine ⟨b', off', rfl, ?_⟩
        have := hc2 k (by omega)
        rw [Go.WideShapes.add_plain] at this
        rw [this, List.getElem?_take, if_pos hk, List.getD_eq_getElem?_getD]
    · by_cases hi : i < len
      · rw [hrow i hi, hL i hi]
        obtain ⟨_, h2, h3, h4, _⟩ := hr i (by omega)
        unfold maxLen at h3; omega
      · rw [List.getElem?_eq_none (by rw [hlen]; omega)]; simp
set_option maxRecDepth 100000 in
theorem open_rows {b0 : Nat} {r : Reach} {v : Value} {d : DataW H} {p : List MemPlace} (hv : Value.okWide Try.prog w r b0 35 v) (h : DataW.Trod enc Try.prog w base (fun _ => true) held 35 v d p) :
    ∃ rows, SlII w v rows ∧ rows.length ≤ 9223372036854775807 ∧ ∀ i : Nat, (rows[i]?.getD []).length ≤ 9223372036854775807 := by
  obtain ⟨a0, len, cap, rfl⟩ := Go.WideShapes.okWide_slice Try.underlying35 hv
  obtain ⟨fuel, hf⟩ := h
  simp only [Value.cells] at hf
  obtain ⟨v', rows, e, h1, h2, h3⟩ := rows_of_trod hf
  have e' : v' = .slice a0 len cap := by simpa using e.symm
  rw [e'] at h1
  exact ⟨rows, h1, h2, h3⟩
end
end Go.Proofs.Yteagecoiijhflaa

/- Laws whose arguments are a machine and rows of numbers. -/
namespace Go.Proofs.Yteagecoiijhflaa
open Go.ChangeShapes Go.WideShapes Go.ChangeAt Go.RowKit Go.Joins
set_option linter.unusedVariables false
set_option linter.unusedSimpArgs false

section
variable {H : Type} {enc : TypeId × Value → H} {w : World} {base : Nat} {held : Bool}
set_option maxRecDepth 100000 in
theorem row_of_trod {n : Nat} {cs : List Value} {y : DataW H × List MemPlace} (h : DataW.trod enc Try.prog w base (fun _ => true) held n 26 cs = some y) :
    ∃ v xs, cs = [v] ∧ SlI w v xs ∧ xs.length ≤ 9223372036854775807 := by
  rcases open_ints Try.underlying26 Try.underlying2 (by kernel_rfl) h with ⟨rfl, _⟩ | ⟨a, len, cap, zs, rfl, _, hl, hm, hz, _, hc, _⟩
  · exact ⟨_, [], rfl, ⟨none, 0, rfl, fun i hi => by simp at hi⟩, by simp⟩
  · simp only [if_true] at hz
    have hlen : (zs.take len).length = len := by rw [List.length_take]; omega
    refine ⟨_, zs.take len, rfl, ⟨some a, cap, by rw [hlen], fun i hi => ?_⟩, by unfold maxLen at hm; omega⟩
    rw [hlen] at hi
    obtain ⟨b, off, rfl, hcell⟩ := ints_at hc (by omega)
    refine ⟨b, off, rfl, ?_⟩
    rw [hcell i (by omega), List.getElem?_take, if_pos hi, List.getD_eq_getElem?_getD]
set_option maxRecDepth 100000 in
theorem open_row {b0 : Nat} {r : Reach} {v : Value} {d : DataW H} {p : List MemPlace} (hv : Value.okWide Try.prog w r b0 26 v) (h : DataW.Trod enc Try.prog w base (fun _ => true) held 26 v d p) :
    ∃ xs, SlI w v xs ∧ xs.length ≤ 9223372036854775807 := by
  obtain ⟨a0, len, cap, rfl⟩ := Go.WideShapes.okWide_slice Try.underlying26 hv
  obtain ⟨fuel, hf⟩ := h
  simp only [Value.cells] at hf
  obtain ⟨v', xs, e, h1, h2⟩ := row_of_trod hf
  have e' : v' = .slice a0 len cap := by simpa using e.symm
  rw [e'] at h1
  exact ⟨xs, h1, h2⟩
end
set_option maxHeartbeats 1000000 in
theorem markI3_any (B : Nat) (v : Value) (xs : List Int) (k : Nat) (hx : xs.length ≤ 1100000) (hk : k ≤ 1000000) (w : World) (h : OwnI w B v xs) :
    Calls Try.prog 21 #[v, .int .i64 (k : Int)] w fun e w' => e = .returned (.int .i64 ((k + xs.length : Nat) : Int)) ∧ w.grownBy w' v.ownBlock ∧ OwnI w' B v (marks k xs.length) := by
  obtain ⟨a, c, rfl, -⟩ := h.form
  have H0 : Hid (OwnI w B (.slice a xs.length c) (mixM k 0 xs)) := by
    show OwnI _ _ _ _
    simpa [mixM, marks] using h
  clear h
  go_enter Try.func21, Try.ntmps21
  go_wp2
  go_loopw [1, 5] (fun u i wr => ∃ j : Nat, j ≤ xs.length ∧ i = .int .i64 j ∧ u = .int .i64 ((k + j : Nat) : Int) ∧ Hid (w.grownBy wr (Value.slice a xs.length c).ownBlock) ∧ Hid (OwnI wr B (.slice a xs.length c) (mixM k j xs))) (fun _ i _ => xs.length - (intOf i).toNat)
  case atStart => exact ⟨0, Nat.zero_le _, rfl, rfl, ⟨rfl, rfl, rfl, Nat.le_refl _, fun _ _ _ => rfl⟩, H0⟩
  case round =>
    clear H0
    obtain ⟨j, hj, rfl, rfl, HG, HO⟩ := hrel
    by_cases hlt : j < xs.length
    · have hO := HO.out
      have hlen := mixM_length k j xs hj
      obtain ⟨g, rfl, hgB⟩ : ∃ g, a = some ⟨g, 0, none⟩ ∧ B ≤ g := by
        rcases hO.2 with ⟨_, e⟩ | ⟨g, cap, cur, hv, h1, rest⟩
        · omega
        · simp at hv; exact ⟨g, hv.1, h1⟩
      have hO' : wr.ownsRow B 2 1 (.slice (some ⟨g, 0, none⟩) xs.length c) xs.length (i64s (mixM k j xs)) := by
        have := hO; rw [OwnI, hlen] at this; exact this
      have hcell := hO'.cellAt j (by omega)
      rw [i64s_get (by omega)] at hcell
      have hfz := hO'.frozenAt j
      have hset : Hid (OwnI (wr.setCell ⟨g, j, none⟩ (.int .i64 ((k + j : Nat) : Int))) B (.slice (some ⟨g, 0, none⟩) xs.length c) (mixM k (j + 1) xs)) := by
        have := (hO'.stored j (.int .i64 ((k + j : Nat) : Int))).1
        rw [mixM_succ k j xs hlt] at this
        show World.ownsRow _ _ _ _ _ _ _
        rw [mixM_length k (j + 1) xs hlt]
        exact this
      have HG2 : Hid (w.grownBy (wr.setCell ⟨g, j, none⟩ (.int .i64 ((k + j : Nat) : Int))) (Value.slice (some ⟨g, 0, none⟩) xs.length c).ownBlock) := by
        have hg := HG.out
        refine ⟨hg.os, hg.tape, hg.output, by have := hg.size; simpa [World.setCell] using this, fun b hb hne => ?_⟩
        have : b ≠ g := fun e => hne (by rw [e]; rfl)
        exact (heap_setCell_other wr ⟨g, j, none⟩ b _ this).trans (hg.block b hb hne)
      have i1 : (0 : Int) ≤ (j : Int) := by omega
      have i2 : (j : Int) < (xs.length : Int) := by omega
      obtain ⟨z, hz⟩ : ∃ z, (mixM k j xs)[j]?.getD 0 = z := ⟨_, rfl⟩
      rw [hz] at hcell
      clear hz hO hO' hlen
      go_wp2
      go_roundw
      case rel => exact ⟨j + 1, by omega, by go_num, by go_num, HG2, hset⟩
      case measure => simp [intOf]; omega
    · have hj' : j = xs.length := by omega
      subst hj'
      rw [mixM_all] at HO
      go_wp2
      go_ret
      exact ⟨rfl, HG.out, HO.out⟩

end Go.Proofs.Yteagecoiijhflaa

/- The program's OrderOf answers as the reference's, for every machine and every word: the law FnExactOrderOf. No conditions. -/
namespace Go.Proofs.Yteagecoiijhflaa
open Go.ChangeShapes Go.WideShapes Go.ChangeAt Go.RowKit Go.Joins
set_option linter.unusedVariables false
set_option linter.unusedSimpArgs false

set_option maxRecDepth 100000 in
set_option maxHeartbeats 4000000 in
theorem lawOrderOf_core (m : Mch) (hwf : m.Wf) (v : Value) (g : Wd) (hn : g.length ≤ 9223372036854775807) (w : World) (hS : SlI w v g) :
    Calls Try.prog 7 #[.agg m.cells.toArray, v] w (Ret (.bool true) w) := by
  obtain ⟨a, c, rfl, hI⟩ := hS
  have HI0 := Lib.hid hI
  have hM0 := (Mm.start w).alloc m.cells.toArray 25
  have hi : (Try.prog.info? 25).map (·.size) = some m.cells.length := by rw [Mch.cells_length hwf]; kernel_rfl
  have HI := Lib.hid hi
  clear hi hI
  go_enter Try.func7, Try.ntmps7
  by_cases hbig : 1048576 < g.length
  · have hb := hM0.below
    have hbig' : (1048576 : Int) < (g.length : Int) := by omega
    clear hM0
    go_wp2_with fail
    go_ret
    exact ⟨rfl, hb⟩
  · have hbig' : (g.length : Int) ≤ 1048576 := by omega
    have hr1 : (w.alloc (.cells m.cells.toArray 25)).rangeAt w.heap.size 0 m.cells := hM0.mach 0 rfl
    go_wp2_with ((with_reducible refine ld_row ?_ 25 (.tmp 2) ?_ w.heap.size 0 ?_ m.cells (.struct _) hr1 Try.underlying25 ?_ HI.out ?_); exact rfl; exact rfl; exact rfl; exact rfl)
    refine (toMachine_any m hwf _).mono ?_
    rintro e w1 ⟨rfl, hb1⟩
    have hM1 := hM0.call hb1
    clear hM0 hr1
    go_wp2_with fail
    refine (toInt64S_any a g c (by omega) _ (HI0.out.keep hM1.below)).mono ?_
    rintro e w2 ⟨v2, rfl, hb2, hO2⟩
    obtain ⟨a2, c2, rfl, hI2⟩ := hO2.form
    have hM2 := hM1.call hb2
    have HSP := Lib.hid (specOrderOf_any m hwf a2 g c2 (by omega) w2 hI2)
    clear hM1 hO2 hI2
    go_wp2_with fail
    refine HSP.out.mono ?_
    clear HSP
    obtain ⟨R, hR⟩ : ∃ R, R = ordI m g := ⟨_, rfl⟩
    have HR := Lib.hid hR
    rw [← hR]
    clear hR
    obtain ⟨k, cd⟩ := R
    rintro e w3 ⟨rfl, hb3⟩
    have hM3 := hM2.call hb3
    clear hM2
    go_wp2_with fail
    refine (toInt64S_any a g c (by omega) _ (HI0.out.keep hM3.below)).mono ?_
    rintro e w4 ⟨v4, rfl, hb4, hO4⟩
    obtain ⟨a4, c4, rfl, -⟩ := hO4.form
    have hM4 := hM3.callOwn hb4 hO4 (by simp [i64s])
    have hr4 : w4.rangeAt w.heap.size 0 m.cells := hM4.mach 0 rfl
    clear hM3 hO4
    go_wp2_with ((with_reducible refine ld_row ?_ 25 (.tmp 2) ?_ w.heap.size 0 ?_ m.cells (.struct _) hr4 Try.underlying25 ?_ HI.out ?_); exact rfl; exact rfl; exact rfl; exact rfl)
    refine (toMachine_any m hwf _).mono ?_
    rintro e w5 ⟨rfl, hb5⟩
    have hM5 := hM4.call hb5
    have HIM := Lib.hid (implOrderOf_any m hwf a4 g c4 (by omega) w5 (hM5.intsAt 0 rfl))
    rw [← HR.out] at HIM
    clear hM4 hr4
    go_wp2_with fail
    refine HIM.out.mono ?_
    rintro e w6 ⟨rfl, hb6⟩
    have hM6 := hM5.call hb6
    clear hM5 HIM
    go_wp2_with fail
    refine (toInt64S_any a g c (by omega) _ (HI0.out.keep hM6.below)).mono ?_
    rintro e w8 ⟨v8, rfl, hb8, hO8⟩
    obtain ⟨a8, c8, rfl, hI8⟩ := hO8.form
    have hM8 := hM6.call hb8
    clear hM6 hO8
    go_wp2_with fail
    refine (eqI_same a4 a8 c4 c8 g (by omega) _ (hM8.intsAt 0 rfl) hI8).mono ?_
    rintro e w9 ⟨rfl, hb9⟩
    have hbb := (hM8.call hb9).below
    clear hM8 hI8
    go_wp2_with fail
    go_ret
    exact ⟨rfl, hbb⟩

set_option maxRecDepth 100000 in
theorem lawOrderOf_lifted (os : Os) (started : os.Started) (H : Type) (enc : TypeId × Value → H) :
    ReturnsInHanded {} Try.checked os 7 .any (Rows.fnExactOrderOfSpec.pre6 enc Try.prog Try.f7 Rows.fnExactOrderOfRow.domain false) (Rows.fnExactOrderOfSpec.post enc Try.prog Try.f7 false true false false) := by
  refine returnsInHanded_of_change (C := Try.checked) Try.own started (by kernel_rfl) Try.func7
    (ChangeSpec.witness6 (enc := enc) (C := Try.checked) false ⟨#[], #[.agg ((Value.int .i64 0 :: Value.int .i64 0 :: List.replicate 96 (Value.int .u8 0)).toArray), .slice none 0 0], []⟩ 8 (by kernel_rfl) (by kernel_rfl) (by kernel_rfl) (by kernel_rfl)) ?_
  intro W base args ds gs before hval0 hW _ _
  have hval : ∀ (j : Nat) t v, Try.f7.params[j]? = some t → args[j]? = some v → Value.okWide Try.prog W .any base t v := hval0
  have hW' := hW
  obtain ⟨p, q, hA0, hV, rfl, _, _⟩ := hW
  have hA : DataW.TrodAll enc Try.prog W 0 (fun _ => true) true Try.f7.params.toList args.toList ds p := hA0
  rw [Try.params7] at hA hval
  obtain ⟨v0, v1, d0, d1, p0, p1, rfl, rfl, rfl, h0, h1⟩ := trodAll_two hA
  obtain ⟨rfl, rfl⟩ := trodVars_none hV
  obtain ⟨m, hwf, rfl⟩ := open_mach (hval 0 25 v0 rfl rfl) h0
  obtain ⟨g, hS, hn⟩ := open_row (hval 1 26 v1 rfl rfl) h1
  refine (lawOrderOf_core m hwf v1 g hn W hS).mono fun e W' ⟨he, hb⟩ => ⟨_, he, ?_⟩
  exact law_post Try.laidOut (by kernel_rfl) hW' rfl rfl rfl rfl hb rfl Try.underlying4

theorem orderOf_closed : joinedFacts Try.checked.prog 7 Try.f7 Rows.fnExactOrderOfSpec Rows.fnExactOrderOfRow = true := by
  unfold joinedFacts
  rw [c_enter, c_lifts, c_make]
  kernel_rfl

theorem orderOf_holds : Rows.FnExactOrderOfSaid :=
  OpenClaim.holds_of_wide 7 Try.f7 rfl rfl rfl rfl rfl rfl rfl ⟨rfl, rfl, rfl, rfl, rfl⟩ rfl rfl rfl rfl rfl (by kernel_rfl) Try.func7 orderOf_closed
    (of_decide_eq_true (by kernel_rfl)) (by unfold Func.isWrapper; first | (rw [if_pos (by decide +kernel)]; kernel_rfl) | (rw [if_neg (by decide +kernel)]; exact ⟨rfl, rfl⟩))
    (fun os started H enc _ => lawOrderOf_lifted os started H enc)
#print axioms orderOf_holds
end Go.Proofs.Yteagecoiijhflaa
