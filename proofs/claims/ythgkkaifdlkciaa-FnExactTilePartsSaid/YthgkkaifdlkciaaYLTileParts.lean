import Derived.Test.YthgkkaifdlkciaaYTile01
import Derived.Test.YthgkkaifdlkciaaYTile06
import Derived.Test.YthgkkaifdlkciaaYTile09
/- TileParts returns what its reference returns, for all arguments. No condition. -/
namespace Go.Proofs.Ythgkkaifdlkciaa
open Go.ChangeShapes Go.WideShapes Go.ChangeAt Go.RowKit Go.Joins
open Go.ChangeMaps (open_string shut_string)
set_option linter.unusedVariables false
set_option linter.unusedSimpArgs false

set_option maxRecDepth 100000 in
set_option maxHeartbeats 6000000 in
theorem lawTileParts_core (m : Mch) (hwf : m.Wf) (q : Int) (xs : List (List Int)) (c : Int) (hx : xs.length ≤ 100000 ∧ sumLen xs xs.length ≤ 200000 ∧ ∀ i : Nat, (xs[i]?.getD []).length ≤ 2000000)
    (hS : ∀ w, Calls Try.prog 20 #[.agg m.cells.toArray, .int .i64 q] w (RetII xs c w)) (hI : ∀ w, Calls Try.prog 21 #[.agg m.cells.toArray, .int .i64 q] w (RetII xs c w)) (w : World) :
    Calls Try.prog 7 #[.agg m.cells.toArray, .int .i64 q] w (Ret (.bool true) w) := by
  have HS := Lib.hid hS
  have HIM := Lib.hid hI
  have HX := Lib.hid hx
  clear hS hI hx
  have hm := MAt.boxed w m 25
  have hb0 := boxedBelow w m.cells.toArray 25
  have HW := Lib.hid hwf
  have hi : (Try.prog.info? 25).map (·.size) = some m.cells.length := by rw [Mch.cells_length hwf]; kernel_rfl
  have HI := Lib.hid hi
  have hr : (w.alloc (.cells m.cells.toArray 25)).rangeAt w.heap.size 0 m.cells := hm
  clear hi
  go_enter Try.func7, Try.ntmps7
  go_wp2_with ((with_reducible refine ld_row ?_ 25 (.tmp 2) ?_ w.heap.size 0 ?_ m.cells (.struct _) hr Try.underlying25 ?_ HI.out ?_); exact rfl; exact rfl; exact rfl; exact rfl)
  refine (toMachine_any m hwf _).mono ?_
  rintro e w1 ⟨rfl, hb1⟩
  have hbb1 := hb0.trans (hb1.mono hb0.size)
  have hm1 := hm.keep hb1 hwf
  go_wp2_with fail
  refine (HS.out _).mono ?_
  rintro e w2 ⟨v, rfl, hb2, hO2⟩
  have HO2 := Lib.hid hO2
  have hbb2 := hbb1.trans (hb2.mono hbb1.size)
  have hm2 := hm1.keep hb2 hwf
  have hr2 : w2.rangeAt w.heap.size 0 m.cells := hm2
  clear hO2
  go_wp2_with ((with_reducible refine ld_row ?_ 25 (.tmp 2) ?_ w.heap.size 0 ?_ m.cells (.struct _) hr2 Try.underlying25 ?_ HI.out ?_); exact rfl; exact rfl; exact rfl; exact rfl)
  refine (toMachine_any m hwf _).mono ?_
  rintro e w3 ⟨rfl, hb3⟩
  have hbb3 := hbb2.trans (hb3.mono hbb2.size)
  have hm3 := hm2.keep hb3 hwf
  have HV3 : Hid (SlII w3 v xs) := (HO2.out.below hb3).sl
  clear HO2
  go_wp2_with fail
  refine (HIM.out _).mono ?_
  rintro e w4 ⟨u, rfl, hb4, hO4⟩
  have HU4 := Lib.hid hO4
  have hbb4 := hbb3.trans (hb4.mono hbb3.size)
  have hm4 := hm3.keep hb4 hwf
  have HV4 := Lib.hid (HV3.out.below hb4)
  have HF2 := Lib.hid HU4.out.sl
  clear hO4
  obtain ⟨a1, c1, rfl, -⟩ := id HV3.out
  obtain ⟨a2, c2, rfl, -⟩ := id HF2.out
  go_wp2_with fail
  refine (eqII_same _ _ xs (by have := HX.out.1; omega) HX.out.2.2 _ HF2.out HV4.out).mono ?_
  rintro e w5 ⟨rfl, n5, e5⟩
  have hb5 : Below w4.heap.size w4 w5 := by rw [e5]; exact ⟨rfl, rfl, rfl, Nat.le_refl _, fun _ _ => rfl⟩
  clear e5
  have hbb5 := hbb4.trans (hb5.mono hbb4.size)
  have hm5 := hm4.keep hb5 hwf
  have HU5 := Lib.hid (HU4.out.below hb5)
  have h35 := hb4.trans (hb5.mono hb4.size)
  go_wp2_with fail
  refine (markII_any w3.heap.size _ xs 1 (by have := HX.out.1; omega) (by have := HX.out.2.1; omega) (by omega) _ HU5.out).mono ?_
  rintro e w6 ⟨rfl, hb6, hM6⟩
  have HM6 := Lib.hid hM6
  clear hM6
  have hbb6 := hbb5.trans (hb6.mono (Nat.le_trans hbb3.size (Nat.le_refl _)))
  have hm6 : MAt w6 w.heap.size 0 m := hm5.below hb6 (World.block_lt_of_cell? w3 ⟨w.heap.size, 0, none⟩ hm3.l)
  have HV6 := Lib.hid (HV3.out.below (h35.trans hb6))
  have hx1 := HX.out.2.1
  go_wp2_with fail
  refine (heldII_any w3.heap.size _ xs 1 (by have := HX.out.1; omega) (by omega) (by omega) _ HM6.out).mono ?_
  rintro e w7 ⟨rfl, hb7⟩
  have hbb7 := hbb6.trans (hb7.mono hbb6.size)
  have hm7 := hm6.keep hb7 hwf
  have HM7 := Lib.hid (HM6.out.below hb7)
  have HV7 := Lib.hid (HV6.out.below hb7)
  have hr7 : w7.rangeAt w.heap.size 0 m.cells := hm7
  go_wp2_with ((with_reducible refine ld_row ?_ 25 (.tmp 2) ?_ w.heap.size 0 ?_ m.cells (.struct _) hr7 Try.underlying25 ?_ HI.out ?_); exact rfl; exact rfl; exact rfl; exact rfl)
  refine (toMachine_any m hwf _).mono ?_
  rintro e w8 ⟨rfl, hb8⟩
  have hbb8 := hbb7.trans (hb8.mono hbb7.size)
  have HM8 := Lib.hid (HM7.out.below hb8)
  have HV8 := Lib.hid (HV7.out.below hb8)
  go_wp2_with fail
  refine (HIM.out _).mono ?_
  rintro e w9 ⟨u9, rfl, hb9, hO9⟩
  have HF9 := Lib.hid hO9.sl
  clear hO9
  obtain ⟨a9, c9, rfl, -⟩ := id HF9.out
  have hbb9 := hbb8.trans (hb9.mono hbb8.size)
  have HM9 := Lib.hid (HM8.out.below hb9)
  have HV9 := Lib.hid (HV8.out.below hb9)
  go_wp2_with fail
  refine (eqII_same _ _ xs (by have := HX.out.1; omega) HX.out.2.2 _ HF9.out HV9.out).mono ?_
  rintro e w10 ⟨rfl, n10, e10⟩
  have hb10 : Below w9.heap.size w9 w10 := by rw [e10]; exact ⟨rfl, rfl, rfl, Nat.le_refl _, fun _ _ => rfl⟩
  clear e10
  have hbb10 := hbb9.trans (hb10.mono hbb9.size)
  have HM10 := Lib.hid (HM9.out.below hb10)
  go_wp2_with fail
  refine (heldII_any w3.heap.size _ xs 1 (by have := HX.out.1; omega) (by omega) (by omega) _ HM10.out).mono ?_
  rintro e w11 ⟨rfl, hb11⟩
  have hbb11 := hbb10.trans (hb11.mono hbb10.size)
  go_wp2_with fail
  go_ret
  exact ⟨rfl, hbb11⟩

set_option maxRecDepth 100000 in
theorem lawTileParts_lifted (os : Os) (started : os.Started) (H : Type) (enc : TypeId × Value → H) :
    ReturnsInHanded {} Try.checked os 7 .any (Rows.fnExactTilePartsSpec.pre6 enc Try.prog Try.f7 Rows.fnExactTilePartsRow.domain false) (Rows.fnExactTilePartsSpec.post enc Try.prog Try.f7 false true false false) := by
  refine returnsInHanded_of_change (C := Try.checked) Try.own started (by kernel_rfl) Try.func7
    (ChangeSpec.witness6 (enc := enc) (C := Try.checked) false ⟨#[], #[.agg ((Value.int .i64 0 :: Value.int .i64 0 :: List.replicate 96 (Value.int .u8 0)).toArray), .int .i64 0], []⟩ 8 (by kernel_rfl) (by kernel_rfl) (by kernel_rfl) (by kernel_rfl)) ?_
  intro W base args ds gs before hval0 hW _ _
  have hval : ∀ (j : Nat) t v, Try.f7.params[j]? = some t → args[j]? = some v → Value.okWide Try.prog W .any base t v := hval0
  have hW' := hW
  obtain ⟨p, q, hA0, hV, rfl, _, _⟩ := hW
  have hA : DataW.TrodAll enc Try.prog W 0 (fun _ => true) true Try.f7.params.toList args.toList ds p := hA0
  rw [Try.params7] at hA hval
  obtain ⟨v0, v1, d0, d1, p0, p1, rfl, rfl, rfl, h0, h1⟩ := trodAll_two hA
  obtain ⟨rfl, rfl⟩ := trodVars_none hV
  obtain ⟨m, hwf, rfl⟩ := open_mach (hval 0 25 v0 rfl rfl) h0
  obtain ⟨q, rfl, rfl, rfl, wx1⟩ := open_int Try.underlying2 (hval 1 2 v1 rfl rfl) h1
  refine (lawTileParts_core m hwf q _ _ (tpL_fit m q) (fun w => specTileParts_any m hwf q w) (fun w => implTileParts_any m hwf q w) W).mono fun e W' ⟨he, hb⟩ => ⟨_, he, ?_⟩
  exact law_post Try.laidOut (by kernel_rfl) hW' rfl rfl rfl rfl hb rfl Try.underlying4

theorem tileParts_closed : joinedFacts Try.checked.prog 7 Try.f7 Rows.fnExactTilePartsSpec Rows.fnExactTilePartsRow = true := by
  unfold joinedFacts
  rw [c_enter, c_lifts, c_make]
  kernel_rfl

theorem tileParts_holds : Rows.FnExactTilePartsSaid :=
  OpenClaim.holds_of_wide 7 Try.f7 rfl rfl rfl rfl rfl rfl rfl ⟨rfl, rfl, rfl, rfl, rfl⟩ rfl rfl rfl rfl rfl (by kernel_rfl) Try.func7 tileParts_closed
    (of_decide_eq_true (by kernel_rfl)) (by unfold Func.isWrapper; first | (rw [if_pos (by decide +kernel)]; kernel_rfl) | (rw [if_neg (by decide +kernel)]; exact ⟨rfl, rfl⟩))
    (fun os started H enc _ => lawTileParts_lifted os started H enc)
#print axioms tileParts_holds
end Go.Proofs.Ythgkkaifdlkciaa
