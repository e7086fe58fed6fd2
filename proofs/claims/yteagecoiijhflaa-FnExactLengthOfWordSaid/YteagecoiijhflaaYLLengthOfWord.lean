import Derived.Test.YteagecoiijhflaaYBall25
import Derived.Test.YteagecoiijhflaaYBall12
/- LengthOfWord returns what its reference returns, for all arguments. No condition. -/
namespace Go.Proofs.Yteagecoiijhflaa
open Go.ChangeShapes Go.WideShapes Go.ChangeAt Go.RowKit Go.Joins
set_option linter.unusedVariables false
set_option linter.unusedSimpArgs false

set_option maxRecDepth 100000 in
set_option maxHeartbeats 4000000 in
theorem lawLengthOfWord_core (m : Mch) (hwf : m.Wf) (v : Value) (g : Wd) (hn : g.length ≤ 9223372036854775807) (x : Int) (w : World) (hS : SlI w v g) :
    Calls Try.prog 13 #[.agg m.cells.toArray, v, .int .i64 x] w (Ret (.bool true) w) := by
  obtain ⟨a, c, rfl, hI⟩ := hS
  have HI0 := Lib.hid hI
  have hM0 := (Mm.start w).alloc m.cells.toArray 25
  have hi : (Try.prog.info? 25).map (·.size) = some m.cells.length := by rw [Mch.cells_length hwf]; kernel_rfl
  have HI := Lib.hid hi
  clear hi hI
  go_enter Try.func13, Try.ntmps13
  by_cases hbig : 1048576 < g.length
  · have hb := hM0.below
    have hbig' : (1048576 : Int) < (g.length : Int) := by omega
    clear hM0
    go_wp2_with fail
    go_ret
    exact ⟨rfl, hb⟩
  · have hbig' : (g.length : Int) ≤ 1048576 := by omega
    have hr1 : (w.alloc (.cells m.cells.toArray 25)).rangeAt w.heap.size 0 m.cells := hM0.mach 0 rfl
    go_wp2_with ((with_reducible refine ld_row ?_ 25 (.tmp 3) ?_ w.heap.size 0 ?_ m.cells (.struct _) hr1 Try.underlying25 ?_ HI.out ?_); exact rfl; exact rfl; exact rfl; exact rfl)
    refine (toMachine_any m hwf _).mono ?_
    rintro e w1 ⟨rfl, hb1⟩
    have hM1 := hM0.call hb1
    clear hM0 hr1
    go_wp2_with fail
    refine (toInt64S_any a g c (by omega) _ (HI0.out.keep hM1.below)).mono ?_
    rintro e w2 ⟨v2, rfl, hb2, hO2⟩
    obtain ⟨a2, c2, rfl, hI2⟩ := hO2.form
    have hM2 := hM1.call hb2
    have HSP := Lib.hid (specLengthOfWord_any m hwf a2 g c2 (by omega) x w2 hI2)
    clear hM1 hO2 hI2
    go_wp2_with fail
    refine HSP.out.mono ?_
    clear HSP
    obtain ⟨R, hR⟩ : ∃ R, R = lenI m g x := ⟨_, rfl⟩
    have HR := Lib.hid hR
    rw [← hR]
    clear hR
    obtain ⟨k, cd⟩ := R
    rintro e w3 ⟨rfl, hb3⟩
    have hM3 := hM2.call hb3
    clear hM2
    go_wp2_with fail
    refine (toInt64S_any a g c (by omega) _ (HI0.out.keep hM3.below)).mono ?_
    rintro e w4 ⟨v4, rfl, hb4, hO4⟩
    obtain ⟨a4, c4, rfl, -⟩ := hO4.form
    have hM4 := hM3.callOwn hb4 hO4 (by simp [i64s])
    have hr4 : w4.rangeAt w.heap.size 0 m.cells := hM4.mach 0 rfl
    clear hM3 hO4
    go_wp2_with ((with_reducible refine ld_row ?_ 25 (.tmp 3) ?_ w.heap.size 0 ?_ m.cells (.struct _) hr4 Try.underlying25 ?_ HI.out ?_); exact rfl; exact rfl; exact rfl; exact rfl)
    refine (toMachine_any m hwf _).mono ?_
    rintro e w5 ⟨rfl, hb5⟩
    have hM5 := hM4.call hb5
    have HIM := Lib.hid (implLengthOfWord_any m hwf a4 g c4 (by omega) x w5 (hM5.intsAt 0 rfl))
    rw [← HR.out] at HIM
    clear hM4 hr4
    go_wp2_with fail
    refine HIM.out.mono ?_
    rintro e w6 ⟨rfl, hb6⟩
    have hM6 := hM5.call hb6
    clear hM5 HIM
    go_wp2_with fail
    refine (toInt64S_any a g c (by omega) _ (HI0.out.keep hM6.below)).mono ?_
    rintro e w8 ⟨v8, rfl, hb8, hO8⟩
    obtain ⟨a8, c8, rfl, hI8⟩ := hO8.form
    have hM8 := hM6.call hb8
    clear hM6 hO8
    go_wp2_with fail
    refine (eqI_same a4 a8 c4 c8 g (by omega) _ (hM8.intsAt 0 rfl) hI8).mono ?_
    rintro e w9 ⟨rfl, hb9⟩
    have hbb := (hM8.call hb9).below
    clear hM8 hI8
    go_wp2_with fail
    go_ret
    exact ⟨rfl, hbb⟩

set_option maxRecDepth 100000 in
theorem lawLengthOfWord_lifted (os : Os) (started : os.Started) (H : Type) (enc : TypeId × Value → H) :
    ReturnsInHanded {} Try.checked os 13 .any (Rows.fnExactLengthOfWordSpec.pre6 enc Try.prog Try.f13 Rows.fnExactLengthOfWordRow.domain false) (Rows.fnExactLengthOfWordSpec.post enc Try.prog Try.f13 false true false false) := by
  refine returnsInHanded_of_change (C := Try.checked) Try.own started (by kernel_rfl) Try.func13
    (ChangeSpec.witness6 (enc := enc) (C := Try.checked) false ⟨#[], #[.agg ((Value.int .i64 0 :: Value.int .i64 0 :: List.replicate 96 (Value.int .u8 0)).toArray), .slice none 0 0, .int .i64 0], []⟩ 8 (by kernel_rfl) (by kernel_rfl) (by kernel_rfl) (by kernel_rfl)) ?_
  intro W base args ds gs before hval0 hW _ _
  have hval : ∀ (j : Nat) t v, Try.f13.params[j]? = some t → args[j]? = some v → Value.okWide Try.prog W .any base t v := hval0
  have hW' := hW
  obtain ⟨p, q, hA0, hV, rfl, _, _⟩ := hW
  have hA : DataW.TrodAll enc Try.prog W 0 (fun _ => true) true Try.f13.params.toList args.toList ds p := hA0
  rw [Try.params13] at hA hval
  obtain ⟨v0, v1, v2, d0, d1, d2, p0, p1, p2, rfl, rfl, rfl, h0, h1, h2⟩ := trodAll_three hA
  obtain ⟨rfl, rfl⟩ := trodVars_none hV
  obtain ⟨m, hwf, rfl⟩ := open_mach (hval 0 25 v0 rfl rfl) h0
  obtain ⟨g, hS, hn⟩ := open_row (hval 1 26 v1 rfl rfl) h1
  obtain ⟨x, rfl, rfl, rfl, wx2⟩ := open_int Try.underlying2 (hval 2 2 v2 rfl rfl) h2
  refine (lawLengthOfWord_core m hwf v1 g hn x W hS).mono fun e W' ⟨he, hb⟩ => ⟨_, he, ?_⟩
  exact law_post Try.laidOut (by kernel_rfl) hW' rfl rfl rfl rfl hb rfl Try.underlying4

theorem lengthOfWord_closed : joinedFacts Try.checked.prog 13 Try.f13 Rows.fnExactLengthOfWordSpec Rows.fnExactLengthOfWordRow = true := by
  unfold joinedFacts
  rw [c_enter, c_lifts, c_make]
  kernel_rfl

theorem lengthOfWord_holds : Rows.FnExactLengthOfWordSaid :=
  OpenClaim.holds_of_wide 13 Try.f13 rfl rfl rfl rfl rfl rfl rfl ⟨rfl, rfl, rfl, rfl, rfl⟩ rfl rfl rfl rfl rfl (by kernel_rfl) Try.func13 lengthOfWord_closed
    (of_decide_eq_true (by kernel_rfl)) (by unfold Func.isWrapper; first | (rw [if_pos (by decide +kernel)]; kernel_rfl) | (rw [if_neg (by decide +kernel)]; exact ⟨rfl, rfl⟩))
    (fun os started H enc _ => lawLengthOfWord_lifted os started H enc)
#print axioms lengthOfWord_holds
end Go.Proofs.Yteagecoiijhflaa
