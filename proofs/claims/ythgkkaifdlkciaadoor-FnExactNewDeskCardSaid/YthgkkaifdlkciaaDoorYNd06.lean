import Derived.Test.YthgkkaifdlkciaaDoorYNd05
import Derived.Test.YthgkkaifdlkciaaDoorYNd03
/- NewDesk of both sides. -/
namespace Go.Proofs.YthgkkaifdlkciaaDoor
open Go.RowKit
set_option linter.unusedVariables false
set_option linter.unusedSimpArgs false

theorem zeroD : Tryd.zeroCells32.toList = (Value.int .i64 0 :: Value.int .i64 0 :: List.replicate 96 (Value.int .u8 0)) ++ [Value.slice none 0 0, Value.slice none 0 0] := by kernel_rfl
theorem infoD : (Tryd.prog.info? 32).map (·.zero) = some (some (.agg Tryd.zeroCells32)) := by kernel_rfl
theorem placesD : (match Tryd.prog.underlying 32 with | some (.struct fields) => fields.toList.mapM (fun f => (Tryd.prog.info? f.type).map fun i => (f.offset, i.size)) | _ => none) = some [(0, 98), (98, 1), (99, 1)] := by kernel_rfl
theorem builtD {m : Mch} (hwf : m.Wf) :
    Tryd.prog.built 32 [(0, .agg m.cells.toArray)] = some (dcells m (.slice none 0 0) (.slice none 0 0)).toArray := by
  have hl1 := Mch.cells_length hwf
  have hi := infoD
  have hp := placesD
  unfold Program.built
  cases h1 : Tryd.prog.info? 32 with
  | none => rw [h1] at hi; cases hi
  | some it =>
    rw [h1] at hi
    simp only [Option.map_some, Option.some.injEq] at hi
    cases h2 : Tryd.prog.underlying 32 with
    | none => rw [h2] at hp; cases hp
    | some td =>
      rw [h2] at hp
      cases td <;> try (cases hp; done)
      rename_i fields
      simp only at hp ⊢
      rw [hi, hp]
      simp only [Value.cells]
      have hz : Tryd.zeroCells32.size = 100 := by rw [← Array.length_toList, zeroD]; rfl
      have e1 : splice Tryd.zeroCells32.toList 0 m.cells = m.cells ++ [Value.slice none 0 0, Value.slice none 0 0] := by
        rw [zeroD]; exact splice_app [] (Value.int .i64 0 :: Value.int .i64 0 :: List.replicate 96 (Value.int .u8 0)) _ _ (by rw [hl1]; rfl)
      rw [fill_step _ _ 0 _ _ 0 98 rfl (by simp [Value.cells, hl1]) (by rw [hz]; omega)]
      simp only [Value.cells]
      rw [e1]
      rfl

/-- the text "grigorchuk" -/
def gri : ByteArray := ⟨#[103, 114, 105, 103, 111, 114, 99, 104, 117, 107]⟩
theorem gri_kno : kno gri = 4 := by kernel_rfl
/-- the cells of a new desk -/
noncomputable def dsk0 : List Value := dcells (knM 4) (.slice none 0 0) (.slice none 0 0)
theorem dsk_info (m : Mch) (hwf : m.Wf) (u v : Value) : (Tryd.prog.info? 32).map (·.size) = some (dcells m u v).length := by
  rw [dcells_length hwf]; kernel_rfl
theorem dsk_ones (m : Mch) (a b : Option Addr) (n c k d : Nat) : ∀ v ∈ dcells m (.slice a n c) (.slice b k d), v.oneCell' = true := fun v hv => by
  simp only [dcells, List.mem_append, List.mem_cons, List.not_mem_nil, or_false] at hv
  rcases hv with h | rfl | rfl
  · exact mcells_one v h
  · rfl
  · rfl
theorem zeroD_len : Tryd.zeroCells32.toList.length = 100 := by rw [zeroD]; rfl
theorem l08T_gri : l08T gri = kt 4 := by rw [l08T, gri_kno]; rfl
theorem l08Text_gri (w : World) : Calls Tryd.prog 14 #[.string gri] w fun e w' => e = .returned (.string (kt 4)) ∧ Below w.heap.size w w' := by
  have h := l08Text2_any gri w
  rwa [l08T_gri] at h

set_option maxRecDepth 100000 in
set_option maxHeartbeats 1000000 in
theorem l11New_any (w : World) : Calls Tryd.prog 18 #[] w (Ret (.agg dsk0.toArray) w) := by
  have hM0 := (Mm.start w).alloc Tryd.zeroCells32 32
  have HM0 := Lib.hid hM0
  have HRD := Lib.hid (l01Read_any _ _ (knM_text (k := 4) (by omega)))
  have hwf := (knM_text (k := 4) (by omega)).wf
  have HDB : Hid (∀ W, Calls Tryd.prog 14 #[.string gri] W fun e w' => e = .returned (.string (kt 4)) ∧ Below W.heap.size W w') := Lib.hid l08Text_gri
  have HD0 : Hid (dsk0 = dcells (knM 4) (.slice none 0 0) (.slice none 0 0)) := Lib.hid rfl
  clear hM0
  generalize dsk0 = D at *
  generalize knM 4 = m at *
  generalize kt 4 = t at *
  have HIT := Lib.hid (mach_infoT hwf)
  have HM1 := Lib.hid (mach_ones m)
  have HML := Lib.hid (Mch.cells_length hwf)
  have HBU := Lib.hid (builtD hwf)
  have HDI := Lib.hid (dsk_info m hwf (.slice none 0 0) (.slice none 0 0))
  have HDO := Lib.hid (dsk_ones m none none 0 0 0 0)
  have HDL := Lib.hid (dcells_length hwf (.slice none 0 0) (.slice none 0 0))
  rw [← HD0.out] at HBU HDI HDO HDL
  clear HD0
  go_enter Tryd.func18, Tryd.ntmps18
  go_wp2_with fail
  refine (HDB.out _).mono ?_
  rintro e w1 ⟨rfl, hb1⟩
  have HMM := Lib.hid (HM0.out.call hb1)
  clear hb1 HM0
  go_wp2_with fail
  refine (HRD.out _).mono ?_
  rintro e w2 ⟨rfl, hb2⟩
  have hM2 := (HMM.out.call hb2).alloc Tryd.zeroCells25 25
  have ht := (hM2.at 0 rfl).there 0 m.cells.length (by simp only; rw [zero_len, HML.out]; omega)
  have hM3 := hM2.setAll 0 rfl (vs := m.cells) (by rw [zero_len, HML.out])
  simp only [List.set_cons_zero] at hM3
  have hm3 := hM3.mach 0 rfl
  have ht2 := (hM3.at 1 rfl).there 0 D.length (by simp only; rw [zeroD_len, HDL.out]; omega)
  have hM4 := hM3.setAll 1 rfl (vs := D) (by rw [zeroD_len, HDL.out])
  simp only [List.set_cons_zero, List.set_cons_succ] at hM4
  have HB1 := Lib.hid (hM4.at 1 rfl)
  have HBL := Lib.hid hM4.below
  clear hb2 HMM hM2 hM3 hM4 HRD HDB
  go_wp2_with (first | ((with_reducible refine bd_row ?_ 32 #[(0, .tmp 8)] [(0, .agg m.cells.toArray)] D ?_ ?_ HBU.out ?_); exact rfl; exact rfl; exact rfl) | ((with_reducible refine st_row ?_ 25 (.tmp 1) (.tmp 6) ?_ w2.heap.size 0 m.cells ?_ ?_ ht HIT.out HM1.out ?_); exact rfl; exact rfl; exact rfl; exact rfl) | ((with_reducible refine ld_mach ?_ (.tmp 1) ?_ w2.heap.size 0 ?_ m hm3 hwf ?_); exact rfl; exact rfl; exact rfl) | ((with_reducible refine st_row ?_ 32 (.tmp 0) (.tmp 9) ?_ w.heap.size 0 D ?_ ?_ ht2 HDI.out HDO.out ?_); exact rfl; exact rfl; exact rfl; exact rfl))
  exact bodyPost_ret (v := .agg D.toArray) (results_cell_row Tryd.results18 _ _ w.heap.size 32 D.toArray (0, 0) (.struct _) rfl HB1.out Tryd.underlying32 rfl (HDI.out.trans (by rw [List.size_toArray]))) rfl ⟨rfl, HBL.out⟩

theorem specNewDesk_any (w : World) : Calls Tryd.prog 8 #[] w (Ret (.agg dsk0.toArray) w) := by
  have hM0 := (Mm.start w).alloc Tryd.zeroCells32 32
  have HM0 := Lib.hid hM0
  have HDI : Hid _ := Lib.hid (dsk_info (knM 4) (knM_text (k := 4) (by omega)).wf (.slice none 0 0) (.slice none 0 0))
  have HDO := Lib.hid (dsk_ones (knM 4) none none 0 0 0 0)
  have HDL := Lib.hid (dcells_length (knM_text (k := 4) (by omega)).wf (.slice none 0 0) (.slice none 0 0))
  have HN : Hid (∀ W, Calls Tryd.prog 18 #[] W (Ret (.agg dsk0.toArray) W)) := Lib.hid l11New_any
  have HD0 : Hid (dsk0 = dcells (knM 4) (.slice none 0 0) (.slice none 0 0)) := Lib.hid rfl
  rw [← HD0.out] at HDI HDO HDL
  clear hM0 HD0
  generalize dsk0 = D at *
  go_enter Tryd.func8, Tryd.ntmps8
  go_wp2_with fail
  refine (HN.out _).mono ?_
  rintro e w1 ⟨rfl, hb1⟩
  have hM1 := HM0.out.call hb1
  have ht := (hM1.at 0 rfl).there 0 D.length (by simp only; rw [zeroD_len, HDL.out]; omega)
  have hM2 := hM1.setAll 0 rfl (vs := D) (by rw [zeroD_len, HDL.out])
  simp only [List.set_cons_zero] at hM2
  have HB1 := Lib.hid (hM2.at 0 rfl)
  have HBL := Lib.hid hM2.below
  clear hb1 hM1 hM2 HM0 HN
  go_wp2_with ((with_reducible refine st_row ?_ 32 (.tmp 0) (.tmp 1) ?_ w.heap.size 0 D ?_ ?_ ht HDI.out HDO.out ?_); exact rfl; exact rfl; exact rfl; exact rfl)
  exact bodyPost_ret (v := .agg D.toArray) (results_cell_row Tryd.results8 _ _ w.heap.size 32 D.toArray (0, 0) (.struct _) rfl HB1.out Tryd.underlying32 rfl (HDI.out.trans (by rw [List.size_toArray]))) rfl ⟨rfl, HBL.out⟩

theorem kmC_gri : kmC gri = (knM 4).cells := by unfold kmC; rw [gri_kno]; rfl
theorem kmK_gri : kmK gri = 0 := by unfold kmK; rw [gri_kno]; rfl
theorem KnownMachine_gri (mx : Int) (w : World) (hml : w.cell? ⟨Tryd.lCut_ren.g 1, 0, none⟩ = some (.int .i64 mx)) : Calls Tryd.prog 6 #[.string gri] w (Ret (.tuple #[.agg (knM 4).cells.toArray, .int .i64 0]) w) := by
  have h := implKnownMachine_any gri mx w hml
  rwa [kmC_gri, kmK_gri] at h

set_option maxRecDepth 100000 in
set_option maxHeartbeats 1000000 in
theorem implNewDesk_any (mx : Int) (w : World) (hml : w.cell? ⟨Tryd.lCut_ren.g 1, 0, none⟩ = some (.int .i64 mx)) : Calls Tryd.prog 9 #[] w (Ret (.agg dsk0.toArray) w) := by
  have hM0 := (Mm.start w).alloc Tryd.zeroCells32 32
  have HM0 := Lib.hid hM0
  have hlt0 : Tryd.lCut_ren.g 1 < w.heap.size := World.block_lt_of_cell? w _ hml
  have HKM : Hid (∀ W, Below w.heap.size w W → Calls Tryd.prog 6 #[.string gri] W (Ret (.tuple #[.agg (knM 4).cells.toArray, .int .i64 0]) W)) := fun W hW => KnownMachine_gri mx W ((hW.cell hlt0).trans hml)
  have hwf := (knM_text (k := 4) (by omega)).wf
  have HD0 : Hid (dsk0 = dcells (knM 4) (.slice none 0 0) (.slice none 0 0)) := Lib.hid rfl
  clear hM0 hlt0 hml
  generalize dsk0 = D at *
  generalize knM 4 = m at *
  have HIT := Lib.hid (mach_infoT hwf)
  have HM1 := Lib.hid (mach_ones m)
  have HML := Lib.hid (Mch.cells_length hwf)
  have HBU := Lib.hid (builtD hwf)
  have HDI := Lib.hid (dsk_info m hwf (.slice none 0 0) (.slice none 0 0))
  have HDO := Lib.hid (dsk_ones m none none 0 0 0 0)
  have HDL := Lib.hid (dcells_length hwf (.slice none 0 0) (.slice none 0 0))
  rw [← HD0.out] at HBU HDI HDO HDL
  clear HD0
  go_enter Tryd.func9, Tryd.ntmps9
  go_wp2_with fail
  refine (HKM.out _ HM0.out.below).mono ?_
  rintro e w2 ⟨rfl, hb2⟩
  have hM2 := (HM0.out.call hb2).alloc Tryd.zeroCells25 25
  have ht := (hM2.at 0 rfl).there 0 m.cells.length (by simp only; rw [zero_len, HML.out]; omega)
  have hM3 := hM2.setAll 0 rfl (vs := m.cells) (by rw [zero_len, HML.out])
  simp only [List.set_cons_zero] at hM3
  have hm3 := hM3.mach 0 rfl
  have ht2 := (hM3.at 1 rfl).there 0 D.length (by simp only; rw [zeroD_len, HDL.out]; omega)
  have hM4 := hM3.setAll 1 rfl (vs := D) (by rw [zeroD_len, HDL.out])
  simp only [List.set_cons_zero, List.set_cons_succ] at hM4
  have HB1 := Lib.hid (hM4.at 1 rfl)
  have HBL := Lib.hid hM4.below
  clear hb2 HM0 hM2 hM3 hM4 HKM
  go_wp2_with (first | ((with_reducible refine bd_row ?_ 32 #[(0, .tmp 7)] [(0, .agg m.cells.toArray)] D ?_ ?_ HBU.out ?_); exact rfl; exact rfl; exact rfl) | ((with_reducible refine st_row ?_ 25 (.tmp 1) (.tmp 5) ?_ w2.heap.size 0 m.cells ?_ ?_ ht HIT.out HM1.out ?_); exact rfl; exact rfl; exact rfl; exact rfl) | ((with_reducible refine ld_mach ?_ (.tmp 1) ?_ w2.heap.size 0 ?_ m hm3 hwf ?_); exact rfl; exact rfl; exact rfl) | ((with_reducible refine st_row ?_ 32 (.tmp 0) (.tmp 8) ?_ w.heap.size 0 D ?_ ?_ ht2 HDI.out HDO.out ?_); exact rfl; exact rfl; exact rfl; exact rfl))
  exact bodyPost_ret (v := .agg D.toArray) (results_cell_row Tryd.results9 _ _ w.heap.size 32 D.toArray (0, 0) (.struct _) rfl HB1.out Tryd.underlying32 rfl (HDI.out.trans (by rw [List.size_toArray]))) rfl ⟨rfl, HBL.out⟩
end Go.Proofs.YthgkkaifdlkciaaDoor

/- Marks in a desk without words. -/
namespace Go.Proofs.YthgkkaifdlkciaaDoor
open Go.RowKit
set_option linter.unusedVariables false
set_option linter.unusedSimpArgs false

theorem markI_nil (w : World) : Calls Tryd.prog 20 #[.slice none 0 0, .int .i64 1] w (Ret (.int .i64 1) w) :=
  (markI_any w.heap.size (.slice none 0 0) [] 1 (by simp) (by omega) w (Nat.le_refl _) (World.ownsRow_nil _ _ _ _)).mono fun e w' ⟨he, hb, _⟩ => ⟨he, hb⟩
theorem heldI_nil (w : World) : Calls Tryd.prog 21 #[.slice none 0 0, .int .i64 1] w (Ret (.int .i64 1) w) :=
  heldI_any w.heap.size (.slice none 0 0) 1 0 (by omega) (by omega) w (World.ownsRow_nil _ _ _ _)

set_option maxRecDepth 100000 in
set_option maxHeartbeats 1000000 in
theorem markDesk_new (w : World) : Calls Tryd.prog 11 #[.agg dsk0.toArray, .int .i64 1] w (Ret (.int .i64 1) w) := by
  have hwf := (knM_text (k := 4) (by omega)).wf
  have hD := DAt.boxed w (knM 4) (.slice none 0 0) (.slice none 0 0) 32
  have hb0 := boxedBelow w (dcells (knM 4) (.slice none 0 0) (.slice none 0 0)).toArray 32
  have HD0 : Hid (dsk0 = dcells (knM 4) (.slice none 0 0) (.slice none 0 0)) := Lib.hid rfl
  have e1 := hD.fst hwf
  have HE : Hid (∀ W, Below (w.alloc (.cells (dcells (knM 4) (.slice none 0 0) (.slice none 0 0)).toArray 32)).heap.size (w.alloc (.cells (dcells (knM 4) (.slice none 0 0) (.slice none 0 0)).toArray 32)) W → W.cell? ⟨w.heap.size, 99, none⟩ = some (.slice none 0 0)) := fun W hW => (hD.below hW (by simp)).snd hwf
  rw [← HD0.out] at e1 HE hb0
  clear hD HD0 hwf
  generalize dsk0 = D at *
  go_enter Tryd.func11, Tryd.ntmps11
  go_wp2_with fail
  refine (markI_nil _).mono ?_
  rintro e w1 ⟨rfl, hb1⟩
  have e2 := HE.out _ hb1
  have hbb := hb0.trans (hb1.mono hb0.size)
  clear HE e1 hb0 hb1
  go_wp2_with fail
  refine (markI_nil _).mono ?_
  rintro e w2 ⟨rfl, hb2⟩
  have hbb2 := hbb.trans (hb2.mono hbb.size)
  clear hbb hb2 e2
  go_wp2_with fail
  go_ret
  exact ⟨rfl, hbb2⟩

set_option maxRecDepth 100000 in
set_option maxHeartbeats 1000000 in
theorem heldDesk_new (w : World) : Calls Tryd.prog 12 #[.agg dsk0.toArray, .int .i64 1] w (Ret (.int .i64 1) w) := by
  have hwf := (knM_text (k := 4) (by omega)).wf
  have hD := DAt.boxed w (knM 4) (.slice none 0 0) (.slice none 0 0) 32
  have hb0 := boxedBelow w (dcells (knM 4) (.slice none 0 0) (.slice none 0 0)).toArray 32
  have HD0 : Hid (dsk0 = dcells (knM 4) (.slice none 0 0) (.slice none 0 0)) := Lib.hid rfl
  have e1 := hD.fst hwf
  have HE : Hid (∀ W, Below (w.alloc (.cells (dcells (knM 4) (.slice none 0 0) (.slice none 0 0)).toArray 32)).heap.size (w.alloc (.cells (dcells (knM 4) (.slice none 0 0) (.slice none 0 0)).toArray 32)) W → W.cell? ⟨w.heap.size, 99, none⟩ = some (.slice none 0 0)) := fun W hW => (hD.below hW (by simp)).snd hwf
  rw [← HD0.out] at e1 HE hb0
  clear hD HD0 hwf
  generalize dsk0 = D at *
  go_enter Tryd.func12, Tryd.ntmps12
  go_wp2_with fail
  refine (heldI_nil _).mono ?_
  rintro e w1 ⟨rfl, hb1⟩
  have e2 := HE.out _ hb1
  have hbb := hb0.trans (hb1.mono hb0.size)
  clear HE e1 hb0 hb1
  go_wp2_with fail
  refine (heldI_nil _).mono ?_
  rintro e w2 ⟨rfl, hb2⟩
  have hbb2 := hbb.trans (hb2.mono hbb.size)
  clear hbb hb2 e2
  go_wp2_with fail
  go_ret
  exact ⟨rfl, hbb2⟩

theorem eqDesk_new (w : World) : Calls Tryd.prog 10 #[.agg dsk0.toArray, .agg dsk0.toArray] w (Ret (.bool true) w) := by
  have h0 : ∀ W : World, SlI W (.slice none 0 0) [] := fun W => ⟨none, 0, rfl, fun i hi => by simp at hi⟩
  exact eqDesk_same (knM 4) (knM_text (k := 4) (by omega)).wf _ _ _ _ [] [] (by simp) (by simp) w (h0 w) (h0 w) (h0 w) (h0 w)
end Go.Proofs.YthgkkaifdlkciaaDoor
