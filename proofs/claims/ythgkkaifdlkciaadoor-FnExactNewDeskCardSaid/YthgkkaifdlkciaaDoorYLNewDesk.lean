import Derived.Test.YthgkkaifdlkciaaDoorYNd01
import Derived.Deep.Strs
import Derived.Test.YthgkkaifdlkciaaDoorYNd06
import Derived.Test.YthgkkaifdlkciaaDoorYNd05
import Derived.Test.YthgkkaifdlkciaaDoorCards
import Derived.Test.YthgkkaifdlkciaaDoorTie
/- The program's NewDesk answers as the reference's: the law FnExactNewDesk, as a card that ties the two tables of unicode/utf8 to the program's text. No conditions. -/
namespace Go.Proofs.YthgkkaifdlkciaaDoor
open Go.ChangeShapes Go.WideShapes Go.ChangeAt Go.RowKit Go.Joins
open Go.ChangeMaps (open_string shut_string)
set_option linter.unusedVariables false
set_option linter.unusedSimpArgs false

set_option maxRecDepth 100000 in
set_option maxHeartbeats 4000000 in
theorem lawNewDesk_core (mx : Int) (w : World) (hml : w.cell? ⟨Tryd.lCut_ren.g 1, 0, none⟩ = some (.int .i64 mx)) :
    Calls Tryd.prog 4 #[] w (Ret (.bool true) w) := by
  have hlt0 : Tryd.lCut_ren.g 1 < w.heap.size := World.block_lt_of_cell? w _ hml
  have hwf := (knM_text (k := 4) (by omega)).wf
  have HS := Lib.hid specNewDesk_any
  have HIM := Lib.hid (fun W (hW : Below w.heap.size w W) => implNewDesk_any mx W ((hW.cell hlt0).trans hml))
  have HEQ := Lib.hid eqDesk_new
  have HMK := Lib.hid markDesk_new
  have HHD := Lib.hid heldDesk_new
  have HDI := Lib.hid (dsk_info (knM 4) hwf (.slice none 0 0) (.slice none 0 0))
  have HDO := Lib.hid (dsk_ones (knM 4) none none 0 0 0 0)
  have HDL := Lib.hid (dcells_length hwf (.slice none 0 0) (.slice none 0 0))
  have HD0 : Hid (dsk0 = dcells (knM 4) (.slice none 0 0) (.slice none 0 0)) := Lib.hid rfl
  rw [← HD0.out] at HDI HDO HDL
  clear HD0 hwf hml hlt0
  generalize dsk0 = D at *
  have hM0 := Mm.start w
  go_enter Tryd.func4, Tryd.ntmps4
  go_wp2_with fail
  refine (HS.out _).mono ?_
  rintro e w1 ⟨rfl, hb1⟩
  have hM1 := (hM0.call hb1).alloc Tryd.zeroCells32 32
  have ht := (hM1.at 0 rfl).there 0 D.length (by simp only; rw [zeroD_len, HDL.out]; omega)
  have hM2 := hM1.setAll 0 rfl (vs := D) (by rw [zeroD_len, HDL.out])
  simp only [List.set_cons_zero] at hM2
  have HM2 := Lib.hid hM2
  clear hM0 hb1 hM1 hM2
  go_wp2_with ((with_reducible refine st_row ?_ 32 (.tmp 1) (.tmp 6) ?_ w1.heap.size 0 D ?_ ?_ ht HDI.out HDO.out ?_); exact rfl; exact rfl; exact rfl; exact rfl)
  clear ht
  refine (HIM.out _ HM2.out.below).mono ?_
  rintro e w2 ⟨rfl, hb2⟩
  have hM3 := (HM2.out.call hb2).alloc Tryd.zeroCells32 32
  have ht := (hM3.at 0 rfl).there 0 D.length (by simp only; rw [zeroD_len, HDL.out]; omega)
  have hM4 := hM3.setAll 0 rfl (vs := D) (by rw [zeroD_len, HDL.out])
  simp only [List.set_cons_zero] at hM4
  have hd2 := (hM4.at 0 rfl).all
  have hd1 := (hM4.at 1 rfl).all
  have HM4 := Lib.hid hM4
  clear hb2 hM3 hM4 HM2
  go_wp2_with (first | ((with_reducible refine st_row ?_ 32 (.tmp 2) (.tmp 7) ?_ w2.heap.size 0 D ?_ ?_ ht HDI.out HDO.out ?_); exact rfl; exact rfl; exact rfl; exact rfl) | ((with_reducible refine ld_row ?_ 32 (.tmp 2) ?_ w2.heap.size 0 ?_ D (.struct _) hd2 Tryd.underlying32 ?_ HDI.out ?_); exact rfl; exact rfl; exact rfl; exact rfl) | ((with_reducible refine ld_row ?_ 32 (.tmp 1) ?_ w1.heap.size 0 ?_ D (.struct _) hd1 Tryd.underlying32 ?_ HDI.out ?_); exact rfl; exact rfl; exact rfl; exact rfl))
  refine (HEQ.out _).mono ?_
  rintro e w3 ⟨rfl, hb3⟩
  have HM5 := Lib.hid (HM4.out.call hb3)
  have hd := (HM5.out.at 0 rfl).all
  clear hb3 HM4 ht hd1 hd2
  go_wp2_with ((with_reducible refine ld_row ?_ 32 (.tmp 2) ?_ w2.heap.size 0 ?_ D (.struct _) hd Tryd.underlying32 ?_ HDI.out ?_); exact rfl; exact rfl; exact rfl; exact rfl)
  refine (HMK.out _).mono ?_
  rintro e w4 ⟨rfl, hb4⟩
  have HM6 := Lib.hid (HM5.out.call hb4)
  have hd := (HM6.out.at 0 rfl).all
  clear hb4 HM5
  go_wp2_with ((with_reducible refine ld_row ?_ 32 (.tmp 2) ?_ w2.heap.size 0 ?_ D (.struct _) hd Tryd.underlying32 ?_ HDI.out ?_); exact rfl; exact rfl; exact rfl; exact rfl)
  refine (HHD.out _).mono ?_
  rintro e w5 ⟨rfl, hb5⟩
  have HM7 := Lib.hid (HM6.out.call hb5)
  clear hb5 HM6
  go_wp2_with fail
  refine (HIM.out _ HM7.out.below).mono ?_
  rintro e w6 ⟨rfl, hb6⟩
  have hM8 := (HM7.out.call hb6).alloc Tryd.zeroCells32 32
  have ht := (hM8.at 0 rfl).there 0 D.length (by simp only; rw [zeroD_len, HDL.out]; omega)
  have hM9 := hM8.setAll 0 rfl (vs := D) (by rw [zeroD_len, HDL.out])
  simp only [List.set_cons_zero] at hM9
  have hd5 := (hM9.at 0 rfl).all
  have hd1 := (hM9.at 2 rfl).all
  have HM9 := Lib.hid hM9
  clear hb6 hM8 hM9 HM7 hd
  go_wp2_with (first | ((with_reducible refine st_row ?_ 32 (.tmp 5) (.tmp 23) ?_ w6.heap.size 0 D ?_ ?_ ht HDI.out HDO.out ?_); exact rfl; exact rfl; exact rfl; exact rfl) | ((with_reducible refine ld_row ?_ 32 (.tmp 5) ?_ w6.heap.size 0 ?_ D (.struct _) hd5 Tryd.underlying32 ?_ HDI.out ?_); exact rfl; exact rfl; exact rfl; exact rfl) | ((with_reducible refine ld_row ?_ 32 (.tmp 1) ?_ w1.heap.size 0 ?_ D (.struct _) hd1 Tryd.underlying32 ?_ HDI.out ?_); exact rfl; exact rfl; exact rfl; exact rfl))
  refine (HEQ.out _).mono ?_
  rintro e w7 ⟨rfl, hb7⟩
  have HM10 := Lib.hid (HM9.out.call hb7)
  have hd := (HM10.out.at 1 rfl).all
  clear hb7 HM9 ht hd1 hd5
  go_wp2_with ((with_reducible refine ld_row ?_ 32 (.tmp 2) ?_ w2.heap.size 0 ?_ D (.struct _) hd Tryd.underlying32 ?_ HDI.out ?_); exact rfl; exact rfl; exact rfl; exact rfl)
  refine (HHD.out _).mono ?_
  rintro e w8 ⟨rfl, hb8⟩
  have HM11 := Lib.hid (HM10.out.call hb8)
  clear hb8 HM10 hd
  go_wp2_with fail
  go_ret
  exact ⟨rfl, HM11.out.below⟩

set_option maxRecDepth 100000 in
theorem lawNewDesk_lifted (os : Os) (started : os.Started) (H : Type) (enc : TypeId × Value → H) :
    ReturnsInHanded {} Tryd.checked os 4 .any (fun w args => (Rows.fnExactNewDeskSpec.pre enc Tryd.prog Tryd.f4 [] false w args ∧ laidMetH Tryd.prog laidV w) ∧ sizedMet enc Tryd.prog Tryd.f4 (OpenSpec.ofChange Rows.fnExactNewDeskSpec) false w args)
      (Rows.fnExactNewDeskSpec.post enc Tryd.prog Tryd.f4 false true false false) := by
  refine returnsIn_laid (C := Tryd.checked) (X := fun w _ => laidMetH Tryd.prog laidV w) (fun _ _ _ hh h => h.of_heap hh) Tryd.own started (by kernel_rfl) Tryd.func4
    (ChangeSpec.witness_shaped (enc := enc) (C := Tryd.checked) (os := os) (X := fun w _ => laidMetH Tryd.prog laidV w) false (World.laidAll Tryd.prog os laidV) #[] 8 (World.laidAll_os _ _ _)
      (World.shaped_of_ZipB (by kernel_rfl) (by kernel_rfl)) (by kernel_rfl) (by kernel_rfl) (by kernel_rfl)
      (by rw [MakeChecks.laidMetH_plain _ _ _ (by kernel_rfl)]; exact laidMet_laidAll _ (by kernel_rfl) (by kernel_rfl))) ?_
  intro W base args ds gs before hval0 hW hsh
  have hval : ∀ (j : Nat) t v, Tryd.f4.params[j]? = some t → args[j]? = some v → Value.okWide Tryd.prog W .any base t v := hval0
  have hW' := hW
  obtain ⟨p, q, hA0, hV, rfl, _, _⟩ := hW
  have hA : DataW.TrodAll enc Tryd.prog W 0 (fun _ => true) true Tryd.f4.params.toList args.toList ds p := hA0
  rw [Tryd.params4] at hA hval
  obtain ⟨rfl, rfl, rfl⟩ := trodAll_none hA
  obtain ⟨rfl, rfl⟩ := trodVars_none hV
  obtain ⟨mx, hml⟩ := maxLen_cell hsh (Tryd.lCut_ren.g 1) (by decide) (by kernel_rfl)
  refine (lawNewDesk_core mx W hml).mono fun e W' ⟨he, hb⟩ => ⟨_, he, ?_⟩
  exact law_post Tryd.laidOut (by kernel_rfl) hW' rfl rfl rfl rfl hb rfl Tryd.underlying4

theorem newDesk_row : Rows.FnExactNewDeskSaid :=
  OpenClaim.holds_of_wide 4 Tryd.f4 rfl rfl rfl rfl rfl rfl rfl ⟨rfl, rfl, rfl, rfl, rfl⟩ rfl rfl rfl rfl rfl (by kernel_rfl) Tryd.func4 (by kernel_rfl)
    (of_decide_eq_true (by kernel_rfl)) (by unfold Func.isWrapper; first | (rw [if_pos (by decide +kernel)]; kernel_rfl) | (rw [if_neg (by decide +kernel)]; exact ⟨rfl, rfl⟩))
    (fun os started H enc _ => lawNewDesk_lifted os started H enc)
theorem newDesk_holds : Rows.FnExactNewDeskCardSaid :=
  Claim7.holds_tied_plain_at .later [] [.data, .pinned] true _ false newDesk_row (fun _ h => by cases h) (by kernel_rfl) (fun _ h => by cases h) fnExactNewDesk_row_tie rfl ⟨rfl, rfl⟩ (by kernel_rfl) rfl
    (fun f fn hf hfn => by
      obtain rfl : f = 4 := Option.some.inj ((show Tryd.prog.funcNamed Tryd.f4.name = some 4 by kernel_rfl).symm.trans hf) |>.symm
      obtain rfl : fn = Tryd.f4 := (Option.some.inj (Tryd.func4.symm.trans hfn)).symm
      exact ⟨by kernel_rfl, fun j t ht => by
        rw [Tryd.params4] at ht
        simp at ht⟩)
    (by kernel_rfl)
#print axioms newDesk_holds
end Go.Proofs.YthgkkaifdlkciaaDoor
