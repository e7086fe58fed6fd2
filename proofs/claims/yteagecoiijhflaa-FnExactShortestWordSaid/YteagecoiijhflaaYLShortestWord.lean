import Derived.Test.YteagecoiijhflaaYBall25
import Derived.Test.YteagecoiijhflaaYBall12
import Derived.OpenShut
import Derived.Deep.Strs
/- ShortestWord returns what its reference returns, for all arguments. No condition. -/
namespace Go.Proofs.Yteagecoiijhflaa
open Go.ChangeShapes Go.WideShapes Go.ChangeAt Go.RowKit Go.Joins
set_option linter.unusedVariables false
set_option linter.unusedSimpArgs false
set_option maxRecDepth 100000 in
set_option maxHeartbeats 4000000 in
theorem lawShortestWord_core (m : Mch) (hwf : m.Wf) (v : Value) (g : Wd) (hn : g.length ≤ 9223372036854775807) (x : Int) (w : World) (hS : SlI w v g) :
    Calls Try.prog 14 #[.agg m.cells.toArray, v, .int .i64 x] w (Ret (.bool true) w) := by
  obtain ⟨a, c, rfl, hI⟩ := hS
  have HI0 := Lib.hid hI
  have hM0 := (Mm.start w).alloc m.cells.toArray 25
  have hi : (Try.prog.info? 25).map (·.size) = some m.cells.length := by rw [Mch.cells_length hwf]; kernel_rfl
  have HI := Lib.hid hi
  have HRL := Lib.hid (shortI_len m g x)
  clear hi hI
  go_enter Try.func14, Try.ntmps14
  by_cases hbig : 1048576 < g.length
  · have hb := hM0.below
    have hbig' : (1048576 : Int) < (g.length : Int) := by omega
    clear hM0
    go_wp2_with fail
    go_ret
    exact ⟨rfl, hb⟩
  · have hbig' : (g.length : Int) ≤ 1048576 := by omega
    have hr1 : (w.alloc (.cells m.cells.toArray 25)).rangeAt w.heap.size 0 m.cells := hM0.mach 0 rfl
    go_wp2_with ((with_reducible refine ld_row ?_ 25 (.tmp 3) ?_ w.heap.size 0 ?_ m.cells (.struct _) hr1 Try.underlying25 ?_ HI.out ?_); exact rfl; exact rfl; exact rfl; exact rfl)
    refine (toMachine_any m hwf _).mono ?_
    rintro e w1 ⟨rfl, hb1⟩
    have hM1 := hM0.call hb1
    clear hM0 hr1
    go_wp2_with fail
    refine (toInt64S_any a g c (by omega) _ (HI0.out.keep hM1.below)).mono ?_
    rintro e w2 ⟨v2, rfl, hb2, hO2⟩
    obtain ⟨a2, c2, rfl, hI2⟩ := hO2.form
    have hM2 := hM1.call hb2
    have HSP := Lib.hid (specShortestWord_any m hwf a2 g c2 (by omega) x w2 hI2)
    clear hM1 hO2 hI2
    go_wp2_with fail
    refine HSP.out.mono ?_
    clear HSP
    obtain ⟨R, hR⟩ : ∃ R, R = shortI m g x := ⟨_, rfl⟩
    have HR := Lib.hid hR
    rw [← hR] at HRL ⊢
    clear hR
    obtain ⟨xs, cd⟩ := R
    rintro e w3 ⟨v3, rfl, hb3, hO3⟩
    obtain ⟨a3, c3, rfl, -⟩ := hO3.form
    have hM3 := hM2.callOwn hb3 hO3 (by simp [i64s])
    (try simp only at hM3)
    clear hM2 hO3
    go_wp2_with fail
    refine (toInt64S_any a g c (by omega) _ (HI0.out.keep hM3.below)).mono ?_
    rintro e w4 ⟨v4, rfl, hb4, hO4⟩
    obtain ⟨a4, c4, rfl, -⟩ := hO4.form
    have hM4 := hM3.callOwn hb4 hO4 (by simp [i64s])
    have hr4 : w4.rangeAt w.heap.size 0 m.cells := hM4.mach 0 rfl
    clear hM3 hO4
    go_wp2_with ((with_reducible refine ld_row ?_ 25 (.tmp 3) ?_ w.heap.size 0 ?_ m.cells (.struct _) hr4 Try.underlying25 ?_ HI.out ?_); exact rfl; exact rfl; exact rfl; exact rfl)
    refine (toMachine_any m hwf _).mono ?_
    rintro e w5 ⟨rfl, hb5⟩
    have hM5 := hM4.call hb5
    have HIM := Lib.hid (implShortestWord_any m hwf a4 g c4 (by omega) x w5 (hM5.intsAt 0 rfl))
    rw [← HR.out] at HIM
    clear hM4 hr4
    go_wp2_with fail
    refine HIM.out.mono ?_
    rintro e w6 ⟨v6, rfl, hb6, hO6⟩
    obtain ⟨a6, c6, rfl, -⟩ := hO6.form
    have hM6 := hM5.callOwn hb6 hO6 (by simp [i64s])
    (try simp only at hM6)
    have hxl : xs.length ≤ 100 := HRL.out
    clear hM5 hO6 HIM
    go_wp2_with fail
    refine (eqI_same a6 a3 c6 c3 xs (by omega) _ (hM6.intsAt 0 rfl) (hM6.intsAt 2 rfl)).mono ?_
    rintro e w7 ⟨rfl, hb7⟩
    have hM7 := hM6.call hb7
    clear hM6
    go_wp2_with fail
    refine (toInt64S_any a g c (by omega) _ (HI0.out.keep hM7.below)).mono ?_
    rintro e w8 ⟨v8, rfl, hb8, hO8⟩
    obtain ⟨a8, c8, rfl, hI8⟩ := hO8.form
    have hM8 := hM7.call hb8
    clear hM7 hO8
    go_wp2_with fail
    refine (eqI_same a4 a8 c4 c8 g (by omega) _ (hM8.intsAt 1 rfl) hI8).mono ?_
    rintro e w9 ⟨rfl, hb9⟩
    have hM9 := hM8.call hb9
    have hO9 := OwnI.of_row (hM9.own _ (mem_of_get (i := 1) rfl))
    have HMK := Lib.hid (markI3_any w.heap.size _ g 1 (by omega) (by omega) w9 (by simpa [i64s] using hO9))
    clear hM8 hI8 hO9
    go_wp2_with fail
    refine HMK.out.mono ?_
    rintro e w10 ⟨rfl, hg10, hO10⟩
    have hM10 := hM9.gcall 1 rfl hg10 hO10 (by simp [i64s])
    simp only [List.set_cons_zero, List.set_cons_succ] at hM10
    clear hM9 HMK hg10 hO10
    go_wp2_with fail
    refine (eqI_same a6 a3 c6 c3 xs (by omega) _ (hM10.intsAt 0 rfl) (hM10.intsAt 2 rfl)).mono ?_
    rintro e w11 ⟨rfl, hb11⟩
    have hM11 := hM10.call hb11
    have hO11 := OwnI.of_row (hM11.own _ (mem_of_get (i := 0) rfl))
    have HMK := Lib.hid (markI3_any w.heap.size _ xs 1 (by omega) (by omega) w11 (by simpa [i64s] using hO11))
    clear hM10 hO11
    go_wp2_with fail
    refine HMK.out.mono ?_
    rintro e w12 ⟨rfl, hg12, hO12⟩
    have hM12 := hM11.gcall 0 rfl hg12 hO12 (by simp [i64s])
    simp only [List.set_cons_zero, List.set_cons_succ] at hM12
    have hO12' := OwnI.of_row (hM12.own _ (mem_of_get (i := 0) rfl))
    have HHD := Lib.hid (heldI_any w.heap.size (.slice a6 xs.length c6) 1 xs.length (by omega) (by omega) w12 (by simpa [i64s] using hO12))
    clear hM11 HMK hg12 hO12 hO12'
    go_wp2_with fail
    refine HHD.out.mono ?_
    rintro e w13 ⟨rfl, hb13⟩
    have hM13 := hM12.call hb13
    have hr13 : w13.rangeAt w.heap.size 0 m.cells := hM13.mach 0 rfl
    clear hM12 HHD
    go_wp2_with ((with_reducible refine ld_row ?_ 25 (.tmp 3) ?_ w.heap.size 0 ?_ m.cells (.struct _) hr13 Try.underlying25 ?_ HI.out ?_); exact rfl; exact rfl; exact rfl; exact rfl)
    refine (toMachine_any m hwf _).mono ?_
    rintro e w14 ⟨rfl, hb14⟩
    have hM14 := hM13.call hb14
    clear hM13 hr13
    go_wp2_with fail
    refine (toInt64S_any a g c (by omega) _ (HI0.out.keep hM14.below)).mono ?_
    rintro e w15 ⟨v15, rfl, hb15, hO15⟩
    obtain ⟨a15, c15, rfl, hI15⟩ := hO15.form
    have hM15 := hM14.call hb15
    have HIM := Lib.hid (implShortestWord_any m hwf a15 g c15 (by omega) x w15 hI15)
    rw [← HR.out] at HIM
    clear hM14 hO15 hI15
    go_wp2_with fail
    refine HIM.out.mono ?_
    rintro e w16 ⟨v16, rfl, hb16, hO16⟩
    obtain ⟨a16, c16, rfl, hI16⟩ := hO16.form
    have hM16 := hM15.call hb16
    clear hM15 hO16 HIM
    go_wp2_with fail
    refine (eqI_same a16 a3 c16 c3 xs (by omega) _ hI16 (hM16.intsAt 2 rfl)).mono ?_
    rintro e w17 ⟨rfl, hb17⟩
    have hM17 := hM16.call hb17
    have hO17 := OwnI.of_row (hM17.own _ (mem_of_get (i := 0) rfl))
    have hO17' : OwnI w17 w.heap.size (.slice a6 xs.length c6) (marks 1 xs.length) := hO17
    have HHD := Lib.hid (heldI_any w.heap.size (.slice a6 xs.length c6) 1 xs.length (by omega) (by omega) w17 hO17')
    clear hM16 hI16 hO17 hO17'
    go_wp2_with fail
    refine HHD.out.mono ?_
    rintro e w18 ⟨rfl, hb18⟩
    have hbb := (hM17.call hb18).below
    clear hM17 HHD
    go_wp2_with fail
    go_ret
    exact ⟨rfl, hbb⟩

set_option maxRecDepth 100000 in
theorem lawShortestWord_lifted (os : Os) (started : os.Started) (H : Type) (enc : TypeId × Value → H) :
    ReturnsInHanded {} Try.checked os 14 .any (Rows.fnExactShortestWordSpec.pre6 enc Try.prog Try.f14 Rows.fnExactShortestWordRow.domain false) (Rows.fnExactShortestWordSpec.post enc Try.prog Try.f14 false true false false) := by
  refine returnsInHanded_of_change (C := Try.checked) Try.own started (by kernel_rfl) Try.func14
    (ChangeSpec.witness6 (enc := enc) (C := Try.checked) false ⟨#[], #[.agg ((Value.int .i64 0 :: Value.int .i64 0 :: List.replicate 96 (Value.int .u8 0)).toArray), .slice none 0 0, .int .i64 0], []⟩ 8 (by kernel_rfl) (by kernel_rfl) (by kernel_rfl) (by kernel_rfl)) ?_
  intro W base args ds gs before hval0 hW _ _
  have hval : ∀ (j : Nat) t v, Try.f14.params[j]? = some t → args[j]? = some v → Value.okWide Try.prog W .any base t v := hval0
  have hW' := hW
  obtain ⟨p, q, hA0, hV, rfl, _, _⟩ := hW
  have hA : DataW.TrodAll enc Try.prog W 0 (fun _ => true) true Try.f14.params.toList args.toList ds p := hA0
  rw [Try.params14] at hA hval
  obtain ⟨v0, v1, v2, d0, d1, d2, p0, p1, p2, rfl, rfl, rfl, h0, h1, h2⟩ := trodAll_three hA
  obtain ⟨rfl, rfl⟩ := trodVars_none hV
  obtain ⟨m, hwf, rfl⟩ := open_mach (hval 0 25 v0 rfl rfl) h0
  obtain ⟨g, hS, hn⟩ := open_row (hval 1 26 v1 rfl rfl) h1
  obtain ⟨x, rfl, rfl, rfl, wx2⟩ := open_int Try.underlying2 (hval 2 2 v2 rfl rfl) h2
  refine (lawShortestWord_core m hwf v1 g hn x W hS).mono fun e W' ⟨he, hb⟩ => ⟨_, he, ?_⟩
  exact law_post Try.laidOut (by kernel_rfl) hW' rfl rfl rfl rfl hb rfl Try.underlying4

theorem shortestWord_closed : joinedFacts Try.checked.prog 14 Try.f14 Rows.fnExactShortestWordSpec Rows.fnExactShortestWordRow = true := by
  unfold joinedFacts
  rw [c_enter, c_lifts, c_make]
  kernel_rfl

theorem shortestWord_holds : Rows.FnExactShortestWordSaid :=
  OpenClaim.holds_of_wide 14 Try.f14 rfl rfl rfl rfl rfl rfl rfl ⟨rfl, rfl, rfl, rfl, rfl⟩ rfl rfl rfl rfl rfl (by kernel_rfl) Try.func14 shortestWord_closed
    (of_decide_eq_true (by kernel_rfl)) (by unfold Func.isWrapper; first | (rw [if_pos (by decide +kernel)]; kernel_rfl) | (rw [if_neg (by decide +kernel)]; exact ⟨rfl, rfl⟩))
    (fun os started H enc _ => lawShortestWord_lifted os started H enc)
#print axioms shortestWord_holds
end Go.Proofs.Yteagecoiijhflaa
