/- KnownRelations returns what its reference returns, for all arguments. No condition. -/
import Derived.Test.YtmacnofkpdikiaaJ
import Derived.Test.YtmacnofkpdikiaaL
import Derived.Test.YtmacnofkpdikiaaKJ
namespace Go.Proofs.Ytmacnofkpdikiaa
open Go.ChangeShapes Go.WideShapes Go.ChangeAt Go.RowKit
open Go.ChangeMaps (open_string shut_string)
set_option linter.unusedVariables false
set_option linter.unusedSimpArgs false

set_option maxRecDepth 100000 in
set_option maxHeartbeats 2000000 in
theorem lawKnownRelations_core (s : ByteArray) (hs : s.size ≤ maxLen) (xs : List ByteArray) (c : Int) (hx : xs.length ≤ 6)
    (hS : ∀ w, Calls Try.prog 17 #[.string s] w (RetS xs c w)) (hI : ∀ w, Calls Try.prog 18 #[.string s] w (RetS xs c w)) (w : World) :
    Calls Try.prog 4 #[.string s] w (Ret (.bool true) w) := by
  have HS := Lib.hid hS
  have HIM := Lib.hid hI
  have HX := Lib.hid hx
  simp only [maxLen] at hs
  clear hS hI hx
  go_enter Try.func4, Try.ntmps4
  by_cases hbig : (1048576 : Int) < (s.size : Int)
  · go_wp2_with fail
    go_ret
    exact ⟨rfl, Below.refl _ _⟩
  go_wp2_with fail
  refine (HS.out _).mono ?_
  rintro e w1 ⟨v, rfl, hb1, hO1⟩
  have HF1 := Lib.hid hO1.form
  clear hO1
  go_wp2_with fail
  refine (HIM.out _).mono ?_
  rintro e w2 ⟨u, rfl, hb2, hO2⟩
  have HU2 := Lib.hid hO2
  have HF2 := Lib.hid hO2.form
  clear hO2
  have hbb2 := hb1.trans (hb2.mono hb1.size)
  obtain ⟨a1, c1, rfl, hI1⟩ := HF1.out
  obtain ⟨a2, c2, rfl, hI2⟩ := HF2.out
  have HI1 := Lib.hid hI1
  have HI2 := Lib.hid hI2
  clear HF1 HF2 hI1 hI2
  go_wp2_with fail
  refine (eqS_same a2 a1 c2 c1 xs (by have := HX.out; omega) _ HI2.out (HI1.out.below hb2)).mono ?_
  rintro e w3 ⟨rfl, n3, e3⟩
  have hb3 : Below w2.heap.size w2 w3 := by rw [e3]; exact ⟨rfl, rfl, rfl, Nat.le_refl _, fun _ _ => rfl⟩
  clear e3
  have hbb3 := hbb2.trans (hb3.mono hbb2.size)
  have hb13 := hb2.trans (hb3.mono hb2.size)
  have HU3 := Lib.hid (HU2.out.below hb3)
  have hx := HX.out
  go_wp2_with fail
  refine (markS_any w1.heap.size _ xs 1 (by omega) (by omega) _ hb13.size HU3.out).mono ?_
  rintro e w4 ⟨rfl, hb4, hM4⟩
  have HM4 := Lib.hid hM4
  clear hM4
  have hbb4 := hbb3.trans (hb4.mono hb1.size)
  have HV4 := Lib.hid (HI1.out.below (hb13.trans hb4))
  go_wp2_with fail
  refine (heldS_any w1.heap.size _ 1 xs.length (by omega) (by omega) _ HM4.out).mono ?_
  rintro e w5 ⟨rfl, hb5⟩
  have hbb5 := hbb4.trans (hb5.mono hbb4.size)
  have HM5 := Lib.hid (HM4.out.below hb5)
  have HV5 := Lib.hid (HV4.out.below hb5)
  go_wp2_with fail
  refine (HIM.out _).mono ?_
  rintro e w6 ⟨u6, rfl, hb6, hO6⟩
  have HF6 := Lib.hid hO6.form
  clear hO6
  obtain ⟨a6, c6, rfl, hI6⟩ := HF6.out
  have HI6 := Lib.hid hI6
  clear HF6 hI6
  have hbb6 := hbb5.trans (hb6.mono hbb5.size)
  have HM6 := Lib.hid (HM5.out.below hb6)
  have HV6 := Lib.hid (HV5.out.below hb6)
  go_wp2_with fail
  refine (eqS_same a6 a1 c6 c1 xs (by omega) _ HI6.out HV6.out).mono ?_
  rintro e w7 ⟨rfl, n7, e7⟩
  have hb7 : Below w6.heap.size w6 w7 := by rw [e7]; exact ⟨rfl, rfl, rfl, Nat.le_refl _, fun _ _ => rfl⟩
  clear e7
  have hbb7 := hbb6.trans (hb7.mono hbb6.size)
  have HM7 := Lib.hid (HM6.out.below hb7)
  go_wp2_with fail
  refine (heldS_any w1.heap.size _ 1 xs.length (by omega) (by omega) _ HM7.out).mono ?_
  rintro e w8 ⟨rfl, hb8⟩
  have hbb8 := hbb7.trans (hb8.mono hbb7.size)
  go_wp2_with fail
  go_ret
  exact ⟨rfl, hbb8⟩

set_option maxRecDepth 100000 in
theorem lawKnownRelations_lifted (os : Os) (started : os.Started) (H : Type) (enc : TypeId × Value → H) :
    ReturnsInHanded {} Try.checked os 4 .any (Rows.fnExactKnownRelationsSpec.pre6 enc Try.prog Try.f4 Rows.fnExactKnownRelationsRow.domain false) (Rows.fnExactKnownRelationsSpec.post enc Try.prog Try.f4 false true false false) := by
  refine returnsInHanded_of_change (C := Try.checked) Try.own started (by kernel_rfl) Try.func4
    (ChangeSpec.witness6 (enc := enc) (C := Try.checked) false ⟨#[], #[.string ByteArray.empty], []⟩ 8 (by kernel_rfl) (by kernel_rfl) (by kernel_rfl) (by kernel_rfl)) ?_
  intro W base args ds gs before hval0 hW _ _
  have hval : ∀ (j : Nat) t v, Try.f4.params[j]? = some t → args[j]? = some v → Value.okWide Try.prog W .any base t v := hval0
  have hW' := hW
  obtain ⟨p, q, hA0, hV, rfl, _, _⟩ := hW
  have hA : DataW.TrodAll enc Try.prog W 0 (fun _ => true) true Try.f4.params.toList args.toList ds p := hA0
  rw [Try.params4] at hA hval
  obtain ⟨v0, d0, rfl, rfl, h0⟩ := trodAll_one hA
  obtain ⟨rfl, rfl⟩ := trodVars_none hV
  obtain ⟨s, rfl, rfl, rfl, hmax0⟩ := open_string Try.underlying9 (hval 0 9 v0 rfl rfl) h0
  refine (lawKnownRelations_core s (by simpa [Short, maxLen] using hmax0) _ _ (kr_len (kno s)) (fun w => specKnownRelations_any s w) (fun w => implKnownRelations_any s w) W).mono fun e W' ⟨he, hb⟩ => ⟨_, he, ?_⟩
  exact law_post Try.laidOut (by kernel_rfl) hW' rfl rfl rfl rfl hb rfl Try.underlying4

theorem knownRelations_holds : Rows.FnExactKnownRelationsSaid :=
  OpenClaim.holds_of_wide 4 Try.f4 rfl rfl rfl rfl rfl rfl rfl ⟨rfl, rfl, rfl, rfl, rfl⟩ rfl rfl rfl rfl rfl (by kernel_rfl) Try.func4 (by kernel_rfl)
    (of_decide_eq_true (by kernel_rfl)) (by unfold Func.isWrapper; first | (rw [if_pos (by decide +kernel)]; kernel_rfl) | (rw [if_neg (by decide +kernel)]; exact ⟨rfl, rfl⟩))
    (fun os started H enc _ => lawKnownRelations_lifted os started H enc)
#print axioms knownRelations_holds
end Go.Proofs.Ytmacnofkpdikiaa
