import Derived.Test.YthgkkaifdlkciaaDoorYKm01
import Derived.Deep.Strs
import Derived.Test.YthgkkaifdlkciaaDoorYKm05
import Derived.Test.YthgkkaifdlkciaaDoorCards
import Derived.Test.YthgkkaifdlkciaaDoorTie
/- The program's KnownMachine answers as the reference's, for every text: the law FnExactKnownMachine, as a card that ties the two tables of unicode/utf8 to the program's text. No conditions. -/
namespace Go.Proofs.YthgkkaifdlkciaaDoor
open Go.ChangeShapes Go.WideShapes Go.ChangeAt Go.RowKit Go.Joins
open Go.ChangeMaps (open_string shut_string)
set_option linter.unusedVariables false
set_option linter.unusedSimpArgs false

/-- the machine that is none -/
def zrM : Mch := ⟨0, 0, List.replicate 48 0, List.replicate 48 0⟩
theorem zrM_wf : zrM.Wf := wf_of (by kernel_rfl)
theorem zrM_cells : Tryd.zeroCells25.toList = zrM.cells := by kernel_rfl
def kmM (s : ByteArray) : Mch := if kno s < 8 then knM (kno s) else zrM
theorem kmM_wf (s : ByteArray) : (kmM s).Wf := by
  unfold kmM
  split
  · rename_i h; exact (knM_text h).wf
  · exact zrM_wf
theorem kmC_eq (s : ByteArray) : kmC s = (kmM s).cells := by
  unfold kmC kmM
  split
  · rfl
  · exact zrM_cells

set_option maxRecDepth 100000 in
set_option maxHeartbeats 2000000 in
theorem lawKnownMachine_core (s : ByteArray) (hs : s.size ≤ maxLen) (mx : Int) (w : World) (hml : w.cell? ⟨Tryd.lCut_ren.g 1, 0, none⟩ = some (.int .i64 mx)) :
    Calls Tryd.prog 3 #[.string s] w (Ret (.bool true) w) := by
  have hlt0 : Tryd.lCut_ren.g 1 < w.heap.size := World.block_lt_of_cell? w _ hml
  have HS := Lib.hid (specKnownMachine_any s)
  have HIM := Lib.hid (fun W (hW : Below w.heap.size w W) => implKnownMachine_any s mx W ((hW.cell hlt0).trans hml))
  have hwf := kmM_wf s
  have HEQ := Lib.hid (eqMachine_same (kmM s) hwf)
  have HIT := Lib.hid (mach_infoT hwf)
  have HM1 := Lib.hid (mach_ones (kmM s))
  have HML := Lib.hid (Mch.cells_length hwf)
  rw [kmC_eq] at HS HIM
  generalize kmM s = m at *
  generalize kmK s = c at *
  have hM0 := Mm.start w
  simp only [maxLen] at hs
  clear hml hlt0
  go_enter Tryd.func3, Tryd.ntmps3
  by_cases hbig : (1048576 : Int) < (s.size : Int)
  · go_wp2_with fail
    go_ret
    exact ⟨rfl, Below.refl _ _⟩
  go_wp2_with fail
  refine (HS.out _).mono ?_
  rintro e w1 ⟨rfl, hb1⟩
  have hM1 := (hM0.call hb1).alloc Tryd.zeroCells25 25
  have ht := (hM1.at 0 rfl).there 0 m.cells.length (by simp only; rw [zero_len, HML.out]; omega)
  have hM2 := hM1.setAll 0 rfl (vs := m.cells) (by rw [zero_len, HML.out])
  simp only [List.set_cons_zero] at hM2
  have HM2 := Lib.hid hM2
  clear hM0 hb1 hM1 hM2
  go_wp2_with ((with_reducible refine st_row ?_ 25 (.tmp 3) (.tmp 13) ?_ w1.heap.size 0 m.cells ?_ ?_ ht HIT.out HM1.out ?_); exact rfl; exact rfl; exact rfl; exact rfl)
  clear ht
  refine (HIM.out _ HM2.out.below).mono ?_
  rintro e w2 ⟨rfl, hb2⟩
  have hM3 := (HM2.out.call hb2).alloc Tryd.zeroCells25 25
  have ht := (hM3.at 0 rfl).there 0 m.cells.length (by simp only; rw [zero_len, HML.out]; omega)
  have hM4 := hM3.setAll 0 rfl (vs := m.cells) (by rw [zero_len, HML.out])
  simp only [List.set_cons_zero] at hM4
  have hm5 := hM4.mach 0 rfl
  have hm3 := hM4.mach 1 rfl
  have HM4 := Lib.hid hM4
  clear hb2 hM3 hM4 HM2
  go_wp2_with (first | ((with_reducible refine st_row ?_ 25 (.tmp 5) (.tmp 18) ?_ w2.heap.size 0 m.cells ?_ ?_ ht HIT.out HM1.out ?_); exact rfl; exact rfl; exact rfl; exact rfl) | ((with_reducible refine ld_mach ?_ (.tmp 5) ?_ w2.heap.size 0 ?_ m hm5 hwf ?_); exact rfl; exact rfl; exact rfl) | ((with_reducible refine ld_mach ?_ (.tmp 3) ?_ w1.heap.size 0 ?_ m hm3 hwf ?_); exact rfl; exact rfl; exact rfl))
  refine (HEQ.out _).mono ?_
  rintro e w3 ⟨rfl, hb3⟩
  have hb := (HM4.out.call hb3).below
  clear hb3 HM4
  go_wp2_with fail
  go_ret
  exact ⟨rfl, hb⟩

set_option maxRecDepth 100000 in
theorem lawKnownMachine_lifted (os : Os) (started : os.Started) (H : Type) (enc : TypeId × Value → H) :
    ReturnsInHanded {} Tryd.checked os 3 .any (fun w args => (Rows.fnExactKnownMachineSpec.pre enc Tryd.prog Tryd.f3 [] false w args ∧ laidMetH Tryd.prog laidV w) ∧ sizedMet enc Tryd.prog Tryd.f3 (OpenSpec.ofChange Rows.fnExactKnownMachineSpec) false w args)
      (Rows.fnExactKnownMachineSpec.post enc Tryd.prog Tryd.f3 false true false false) := by
  refine returnsIn_laid (C := Tryd.checked) (X := fun w _ => laidMetH Tryd.prog laidV w) (fun _ _ _ hh h => h.of_heap hh) Tryd.own started (by kernel_rfl) Tryd.func3
    (ChangeSpec.witness_shaped (enc := enc) (C := Tryd.checked) (os := os) (X := fun w _ => laidMetH Tryd.prog laidV w) false (World.laidAll Tryd.prog os laidV) #[.string ByteArray.empty] 8 (World.laidAll_os _ _ _)
      (World.shaped_of_ZipB (by kernel_rfl) (by kernel_rfl)) (by kernel_rfl) (by kernel_rfl) (by kernel_rfl)
      (by rw [MakeChecks.laidMetH_plain _ _ _ (by kernel_rfl)]; exact laidMet_laidAll _ (by kernel_rfl) (by kernel_rfl))) ?_
  intro W base args ds gs before hval0 hW hsh
  have hval : ∀ (j : Nat) t v, Tryd.f3.params[j]? = some t → args[j]? = some v → Value.okWide Tryd.prog W .any base t v := hval0
  have hW' := hW
  obtain ⟨p, q, hA0, hV, rfl, _, _⟩ := hW
  have hA : DataW.TrodAll enc Tryd.prog W 0 (fun _ => true) true Tryd.f3.params.toList args.toList ds p := hA0
  rw [Tryd.params3] at hA hval
  obtain ⟨v0, d0, rfl, rfl, h0⟩ := trodAll_one hA
  obtain ⟨rfl, rfl⟩ := trodVars_none hV
  obtain ⟨s, rfl, rfl, rfl, hmax⟩ := open_string Tryd.underlying9 (hval 0 9 v0 rfl rfl) h0
  obtain ⟨mx, hml⟩ := maxLen_cell hsh (Tryd.lCut_ren.g 1) (by decide) (by kernel_rfl)
  refine (lawKnownMachine_core s (by simpa using hmax) mx W hml).mono fun e W' ⟨he, hb⟩ => ⟨_, he, ?_⟩
  exact law_post Tryd.laidOut (by kernel_rfl) hW' rfl rfl rfl rfl hb rfl Tryd.underlying4

theorem knownMachine_row : Rows.FnExactKnownMachineSaid :=
  OpenClaim.holds_of_wide 3 Tryd.f3 rfl rfl rfl rfl rfl rfl rfl ⟨rfl, rfl, rfl, rfl, rfl⟩ rfl rfl rfl rfl rfl (by kernel_rfl) Tryd.func3 (by kernel_rfl)
    (of_decide_eq_true (by kernel_rfl)) (by unfold Func.isWrapper; first | (rw [if_pos (by decide +kernel)]; kernel_rfl) | (rw [if_neg (by decide +kernel)]; exact ⟨rfl, rfl⟩))
    (fun os started H enc _ => lawKnownMachine_lifted os started H enc)
theorem knownMachine_holds : Rows.FnExactKnownMachineCardSaid :=
  Claim7.holds_tied_plain_at .later [] [.data, .pinned] true _ false knownMachine_row (fun _ h => by cases h) (by kernel_rfl) (fun _ h => by cases h) fnExactKnownMachine_row_tie rfl ⟨rfl, rfl⟩ (by kernel_rfl) rfl
    (fun f fn hf hfn => by
      obtain rfl : f = 3 := Option.some.inj ((show Tryd.prog.funcNamed Tryd.f3.name = some 3 by kernel_rfl).symm.trans hf) |>.symm
      obtain rfl : fn = Tryd.f3 := (Option.some.inj (Tryd.func3.symm.trans hfn)).symm
      exact ⟨by kernel_rfl, fun j t ht => by
        rw [Tryd.params3] at ht
        have hm : t ∈ [9] := by simpa using Array.mem_of_getElem? ht
        have hall : ([9].all fun u => !Tryd.prog.wantsStandIn u) = true := by kernel_rfl
        exact (show Tryd.prog.wantsStandIn t = false by simpa using List.all_eq_true.1 hall t hm)⟩)
    (by kernel_rfl)
#print axioms knownMachine_holds
end Go.Proofs.YthgkkaifdlkciaaDoor
