/- Copies and comparisons of desks. -/
import Derived.Test.YtmacnofkpdikiaaS3
namespace Go.Proofs.Ytmacnofkpdikiaa
open Go.RowKit
set_option linter.unusedVariables false
set_option linter.unusedSimpArgs false

theorem desk_splice {m : Mch} (hw : m.Wf) (Z : List Value) (hZ : Z.length = 100) (u v : Value) : ((splice Z 0 m.cells).set 98 u).set 99 v = dcells m u v := by
  have hl := Mch.cells_length hw
  apply List.ext_getElem?
  intro i
  have hs : (splice Z 0 m.cells).length = 100 := by rw [splice_length, hZ]
  by_cases h1 : i = 99
  · subst h1
    rw [List.getElem?_set_self (by simp [hs]), dcells, List.getElem?_append_right (by omega), hl]; rfl
  · rw [List.getElem?_set_ne (by omega)]
    by_cases h2 : i = 98
    · subst h2
      rw [List.getElem?_set_self (by simp [hs]), dcells, List.getElem?_append_right (by omega), hl]; rfl
    · rw [List.getElem?_set_ne (by omega), splice_get]
      by_cases h3 : i < 98
      · rw [if_pos (by omega), dcells, List.getElem?_append_left (by omega), Nat.sub_zero]
      · rw [if_neg (by omega), List.getElem?_eq_none (by omega), List.getElem?_eq_none (by rw [dcells_length hw]; omega)]
theorem mcells_one {m : Mch} : ∀ v ∈ m.cells, v.oneCell' = true := fun v hv => by
  simp only [Mch.cells, List.mem_cons, List.mem_map] at hv
  rcases hv with rfl | rfl | ⟨z, _, rfl⟩ <;> rfl
theorem OwnI.one {w : World} {B : Nat} {v : Value} {xs : List Int} (h : OwnI w B v xs) : v.oneCell' = true := by
  obtain ⟨a, c, rfl, _⟩ := h.form; rfl
theorem OwnI.sl {w : World} {B : Nat} {v : Value} {xs : List Int} (h : OwnI w B v xs) : SlI w v xs := h.form

set_option maxRecDepth 100000 in
set_option maxHeartbeats 2000000 in
theorem toDesk_any (m : Mch) (hwf : m.Wf) (u v : Value) (xs ys : List Int) (hx : xs.length ≤ 1100000) (hy : ys.length ≤ 1100000) (w : World) (hu : SlI w u xs) (hv : SlI w v ys) :
    Calls Try.prog 28 #[.agg (dcells m u v).toArray] w fun e w' => ∃ u' v', e = .returned (.agg (dcells m u' v').toArray) ∧ Below w.heap.size w w' ∧ OwnI w' w.heap.size u' xs ∧ OwnI w' w.heap.size v' ys := by
  obtain ⟨a, c, rfl, hI⟩ := hu
  obtain ⟨b, d, rfl, hJ⟩ := hv
  have HI := Lib.hid hI
  have HJ := Lib.hid hJ
  have HW := Lib.hid hwf
  clear hI hJ
  have hM0 := (((Mm.start w).alloc (dcells m (.slice a xs.length c) (.slice b ys.length d)).toArray 41).alloc Try.zeroCells46 46).alloc Try.zeroCells46 46
  rw [show ((w.alloc (.cells (dcells m (.slice a xs.length c) (.slice b ys.length d)).toArray 41)).alloc (.cells Try.zeroCells46 46)).heap.size = w.heap.size + 1 + 1 by simp, show (w.alloc (.cells (dcells m (.slice a xs.length c) (.slice b ys.length d)).toArray 41)).heap.size = w.heap.size + 1 by simp] at hM0
  have hZ : Try.zeroCells46.toList.length = 100 := by rw [Array.length_toList]; exact Try.zeroCells46_size
  have hD : DAt (((w.alloc (.cells (dcells m (.slice a xs.length c) (.slice b ys.length d)).toArray 41)).alloc (.cells Try.zeroCells46 46)).alloc (.cells Try.zeroCells46 46)) w.heap.size m (.slice a xs.length c) (.slice b ys.length d) := by
    have := (hM0.at 2 rfl).all
    show World.rangeAt _ _ _ _
    simpa using this
  have hr0 : w.heap.size < (((w.alloc (.cells (dcells m (.slice a xs.length c) (.slice b ys.length d)).toArray 41)).alloc (.cells Try.zeroCells46 46)).alloc (.cells Try.zeroCells46 46)).heap.size := by simp; omega
  have hi1 : Hid ((Try.prog.info? 38).map (·.size) = some m.cells.length) := by show _ = _; rw [Mch.cells_length hwf]; kernel_rfl
  have hi2 : Hid ((Try.prog.info? 44).map (·.size) = some m.cells.length) := by show _ = _; rw [Mch.cells_length hwf]; kernel_rfl
  have HI0 : Hid (IntsAt (((w.alloc (.cells (dcells m (.slice a xs.length c) (.slice b ys.length d)).toArray 41)).alloc (.cells Try.zeroCells46 46)).alloc (.cells Try.zeroCells46 46)) a xs) := HI.out.below hM0.below
  have HJ0 : Hid (IntsAt (((w.alloc (.cells (dcells m (.slice a xs.length c) (.slice b ys.length d)).toArray 41)).alloc (.cells Try.zeroCells46 46)).alloc (.cells Try.zeroCells46 46)) b ys) := HJ.out.below hM0.below
  rw [List.toList_toArray] at hM0
  go_enter Try.func28, Try.ntmps28
  obtain ⟨D, hDD⟩ : ∃ D, D = dcells m (.slice a xs.length c) (.slice b ys.length d) := ⟨_, rfl⟩
  rw [← hDD] at hM0 hD hr0 HI0 HJ0
  rw [← hDD]
  have hr1 : (((w.alloc (.cells D.toArray 41)).alloc (.cells Try.zeroCells46 46)).alloc (.cells Try.zeroCells46 46)).rangeAt w.heap.size 0 m.cells := hD.mach
  clear hDD
  go_wp2_with ((with_reducible refine ld_row ?_ 38 (.tmp 4) ?_ w.heap.size 0 ?_ m.cells (.struct _) hr1 Try.underlying38 ?_ hi1.out ?_); exact rfl; exact rfl; exact rfl; exact rfl)
  refine (toMachine_any m hwf _).mono ?_
  rintro e w1 ⟨rfl, hb1⟩
  have hM1 := hM0.call hb1
  have hD1 := hD.below hb1 hr0
  have HI1 := Lib.hid (HI0.out.keep hb1)
  have HJ1 := Lib.hid (HJ0.out.keep hb1)
  clear hM0 hD hr1
  have ht1 := (hM1.at 0 rfl).there 0 m.cells.length (by rw [hZ, Mch.cells_length hwf]; omega)
  have hM2 := hM1.setCells 0 rfl 0 m.cells
  have hbS := Lib.hid (below_setCells (Nat.le_refl _) m.cells (Below.refl (w.heap.size + 1 + 1) w1) 0 (b := w.heap.size + 1 + 1))
  have hD2 := hD1.below hbS.out (by omega)
  have e1 := hD2.fst hwf
  have HI2 : Hid (IntsAt (w1.setCells (w.heap.size + 1 + 1) 0 m.cells) a xs) := HI.out.below hM2.below
  have H1 : Hid (∀ v ∈ m.cells, v.oneCell' = true) := mcells_one
  clear hM1 hD1
  go_wp2_with (((with_reducible refine st_row ?_ 44 (.tmp 7) (.tmp 6) ?_ (w.heap.size + 1 + 1) 0 m.cells ?_ ?_ ht1 hi2.out H1.out ?_); exact rfl; exact rfl; exact rfl; exact rfl))
  refine (toInt64S_any a xs c hx _ HI2.out).mono ?_
  rintro e w2 ⟨u0, rfl, hb2, hO1⟩
  have hu1 := hO1.one
  obtain ⟨a', c', hu0, -⟩ := id hO1.form
  subst hu0
  obtain ⟨u', hu'⟩ : ∃ u', u' = Value.slice a' xs.length c' := ⟨_, rfl⟩
  rw [← hu'] at hu1 hO1
  have hM3 := hM2.callOwn hb2 hO1 (by simp [i64s])
  have hD3 := hD2.below hb2 (by have := (hM2.at 2 rfl).lt; exact this)
  have hc1 := (hM3.at 0 rfl).cell' (i := 98) (v := (splice Try.zeroCells46.toList 0 m.cells)[98]?.getD undef) (by rw [List.getElem?_eq_getElem (by rw [splice_length, hZ]; omega)]; rfl)
  have hf1 := (hM3.at 0 rfl).free 98
  have hM4 := hM3.setCell 0 rfl 98 u'
  have hD4 : DAt (w2.setCell ⟨w.heap.size + 1 + 1, 98, none⟩ u') w.heap.size m (.slice a xs.length c) (.slice b ys.length d) := hD3.below ((Below.refl (w.heap.size + 1 + 1) w2).setCell (Nat.le_refl _) u') (by omega)
  have e2 := hD4.snd hwf
  have HJ4 : Hid (IntsAt (w2.setCell ⟨w.heap.size + 1 + 1, 98, none⟩ u') b ys) := HJ.out.below hM4.below
  clear hM2 hM3 ht1 e1 hD2 hD3 hO1
  subst hu'
  go_wp2_with fail
  obtain ⟨u', hu'⟩ : ∃ u', u' = Value.slice a' xs.length c' := ⟨_, rfl⟩
  rw [← hu'] at hM4 hD4 e2 HJ4 hu1
  rw [← hu']
  refine (toInt64S_any b ys d hy _ HJ4.out).mono ?_
  rintro e w3 ⟨v0, rfl, hb3, hO2⟩
  have hv1 := hO2.one
  obtain ⟨b', d', hv0, -⟩ := id hO2.form
  obtain ⟨v', hv'⟩ : ∃ v', v' = v0 := ⟨_, rfl⟩
  rw [← hv'] at hv1 hO2
  have HV' := Lib.hid (hv'.trans hv0)
  subst hv0
  have hM5 := hM4.callOwn hb3 hO2 (by simp [i64s])
  have hc2 := (hM5.at 0 rfl).cell' (i := 99) (v := ((splice Try.zeroCells46.toList 0 m.cells).set 98 u')[99]?.getD undef) (by rw [List.getElem?_eq_getElem (by rw [List.length_set, splice_length, hZ]; omega)]; rfl)
  have hf2 := (hM5.at 0 rfl).free 99
  have hM6 := hM5.setCell 0 rfl 99 v'
  simp only [List.set_cons_zero] at hM6
  rw [desk_splice hwf _ hZ u' v'] at hM6
  have hr6 := (hM6.at 0 rfl).all
  have ht6 := (hM6.at 1 rfl).there 0 (dcells m u' v').length (by rw [hZ, dcells_length hwf]; omega)
  have hM7 := hM6.setAll 1 rfl (vs := dcells m u' v') (by rw [hZ, dcells_length hwf])
  have hi4 : Hid ((Try.prog.info? 46).map (·.size) = some (dcells m u' v').length) := by show _ = _; rw [dcells_length hwf]; kernel_rfl
  have H4 : Hid (∀ x ∈ dcells m u' v', x.oneCell' = true) := fun x hx => by
    rcases List.mem_append.1 hx with h | h
    · exact mcells_one x h
    · simp at h; rcases h with rfl | rfl <;> assumption
  clear hM4 hM5 hM6 e2 hD4 hO2 hu1 hv1
  obtain ⟨D', hDD'⟩ : ∃ D', D' = dcells m u' v' := ⟨_, rfl⟩
  rw [← hDD'] at hr6 ht6 hM7 hi4 H4
  have HD' := Lib.hid hDD'
  have HU' := Lib.hid hu'
  rw [hv'] at hr6 ht6 hM7
  clear hDD' hu' hv'
  go_wp2_with (first | ((with_reducible refine ld_row ?_ 46 (.tmp 3) ?_ (w.heap.size + 1 + 1) 0 ?_ D' (.struct _) hr6 Try.underlying46 ?_ hi4.out ?_); exact rfl; exact rfl; exact rfl; exact rfl) | ((with_reducible refine st_row ?_ 46 (.tmp 2) (.tmp 16) ?_ (w.heap.size + 1) 0 D' ?_ ?_ ht6 hi4.out H4.out ?_); exact rfl; exact rfl; exact rfl; exact rfl))
  refine bodyPost_ret (v := .agg D'.toArray) (results_cell_row Try.results28 _ _ (w.heap.size + 1) 46 D'.toArray (0, 0) (.struct _) rfl (hM7.at 1 rfl) Try.underlying46 rfl (hi4.out.trans (by rw [List.size_toArray]))) rfl ⟨u', v', by rw [HD'.out], hM7.below, ?_, ?_⟩
  · have := hM7.own _ (List.mem_cons_of_mem _ (List.mem_cons_self ..)); simpa [OwnI, i64s] using this
  · have := hM7.own _ (List.mem_cons_self ..); rw [HV'.out]; simpa [OwnI, i64s] using this

set_option maxRecDepth 100000 in
set_option maxHeartbeats 1000000 in
theorem eqDesk_same (m : Mch) (hwf : m.Wf) (u v u' v' : Value) (xs ys : List Int) (hx : xs.length ≤ 2000000) (hy : ys.length ≤ 2000000) (w : World) (hu : SlI w u xs) (hv : SlI w v ys) (hu' : SlI w u' xs) (hv' : SlI w v' ys) :
    Calls Try.prog 30 #[.agg (dcells m u v).toArray, .agg (dcells m u' v').toArray] w (Ret (.bool true) w) := by
  obtain ⟨a, c, rfl, hI⟩ := hu
  obtain ⟨b, d, rfl, hJ⟩ := hv
  obtain ⟨a', c', rfl, hI'⟩ := hu'
  obtain ⟨b', d', rfl, hJ'⟩ := hv'
  obtain ⟨D, hDD⟩ : ∃ D, D = dcells m (.slice a xs.length c) (.slice b ys.length d) := ⟨_, rfl⟩
  obtain ⟨D', hDD'⟩ : ∃ D, D = dcells m (.slice a' xs.length c') (.slice b' ys.length d') := ⟨_, rfl⟩
  rw [← hDD, ← hDD']
  have hM := ((Mm.start w).alloc D.toArray 46).alloc D'.toArray 46
  rw [show (w.alloc (.cells D.toArray 46)).heap.size = w.heap.size + 1 by simp, List.toList_toArray, List.toList_toArray] at hM
  have hA : ∀ W, Below (w.heap.size + 1 + 1) ((w.alloc (.cells D.toArray 46)).alloc (.cells D'.toArray 46)) W → DAt W w.heap.size m (.slice a xs.length c) (.slice b ys.length d) := fun W hW => by
    have := (hM.at 1 rfl).all
    simp only [hDD] at this hW ⊢
    exact DAt.below this hW (by omega)
  have hB : ∀ W, Below (w.heap.size + 1 + 1) ((w.alloc (.cells D.toArray 46)).alloc (.cells D'.toArray 46)) W → DAt W (w.heap.size + 1) m (.slice a' xs.length c') (.slice b' ys.length d') := fun W hW => by
    have := (hM.at 0 rfl).all
    simp only [hDD'] at this hW ⊢
    exact DAt.below this hW (by omega)
  have HA := Lib.hid hA
  have HB := Lib.hid hB
  have HI := Lib.hid hI
  have HJ := Lib.hid hJ
  have HI' := Lib.hid hI'
  have HJ' := Lib.hid hJ'
  have HW := Lib.hid hwf
  clear hA hB hI hJ hI' hJ' hDD hDD'
  have hsz : ((w.alloc (.cells D.toArray 46)).alloc (.cells D'.toArray 46)).heap.size = w.heap.size + 1 + 1 := by simp
  have HSZ := Lib.hid hsz
  clear hsz
  have hm1 := (HA.out _ (Below.refl _ _)).mach
  have hm2 := (HB.out _ (Below.refl _ _)).mach
  have hbM := hM.below
  clear hM
  go_enter Try.func30, Try.ntmps30
  go_wp2_with (first | ((with_reducible refine ld_mach ?_ (.tmp 5) ?_ (w.heap.size) (0) ?_ m hm1 hwf ?_); exact rfl; exact rfl; exact rfl) | ((with_reducible refine ld_mach ?_ (.tmp 7) ?_ ((w.heap.size + 1)) (0) ?_ m hm2 hwf ?_); exact rfl; exact rfl; exact rfl))
  refine (eqMachine_same m hwf _).mono ?_
  rintro e w1 ⟨rfl, hb1⟩
  have hbb1 := hbM.trans (hb1.mono (by simp; omega))
  have e1 := (HA.out w1 (by have := HSZ.out; rw [this] at hb1; exact hb1)).fst HW.out
  have e2 := (HB.out w1 (by have := HSZ.out; rw [this] at hb1; exact hb1)).fst HW.out
  clear hm1 hm2
  go_wp2_with fail
  refine (eqI_same a a' c c' xs hx _ (HI.out.below hbb1) (HI'.out.below hbb1)).mono ?_
  rintro e w2 ⟨rfl, hb2⟩
  have hbb2 := hbb1.trans (hb2.mono hbb1.size)
  have hs1 : w.heap.size + 1 + 1 ≤ w1.heap.size := by have := HSZ.out; have := hb1.size; omega
  have e3 := (HA.out w2 (by have := HSZ.out; rw [this] at hb1; exact hb1.trans (hb2.mono hs1))).snd HW.out
  have e4 := (HB.out w2 (by have := HSZ.out; rw [this] at hb1; exact hb1.trans (hb2.mono hs1))).snd HW.out
  clear e1 e2
  go_wp2_with fail
  refine (eqI_same b b' d d' ys hy _ (HJ.out.below hbb2) (HJ'.out.below hbb2)).mono ?_
  rintro e w3 ⟨rfl, hb3⟩
  have hbb3 := hbb2.trans (hb3.mono hbb2.size)
  clear e3 e4
  go_wp2_with fail
  go_ret
  exact ⟨rfl, hbb3⟩
end Go.Proofs.Ytmacnofkpdikiaa
