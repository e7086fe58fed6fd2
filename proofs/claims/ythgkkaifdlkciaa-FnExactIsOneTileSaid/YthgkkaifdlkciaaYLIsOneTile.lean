import Derived.Test.YthgkkaifdlkciaaYTile01
import Derived.Test.YthgkkaifdlkciaaYTile06
import Derived.Test.YthgkkaifdlkciaaYTile09
/- IsOneTile returns what its reference returns, for all arguments. No condition. -/
namespace Go.Proofs.Ythgkkaifdlkciaa
open Go.ChangeShapes Go.WideShapes Go.ChangeAt Go.RowKit Go.Joins
open Go.ChangeMaps (open_string shut_string)
set_option linter.unusedVariables false
set_option linter.unusedSimpArgs false

set_option maxRecDepth 100000 in
set_option maxHeartbeats 4000000 in
theorem lawIsOneTile_core (m : Mch) (hwf : m.Wf) (q : Int) (b : Bool) (c : Int)
    (hS : ∀ w, Calls Try.prog 18 #[.agg m.cells.toArray, .int .i64 q] w (Ret2 (.bool b) (.int .i64 c) w)) (hI : ∀ w, Calls Try.prog 19 #[.agg m.cells.toArray, .int .i64 q] w (Ret2 (.bool b) (.int .i64 c) w)) (w : World) :
    Calls Try.prog 6 #[.agg m.cells.toArray, .int .i64 q] w (Ret (.bool true) w) := by
  have HS := Lib.hid hS
  have HIM := Lib.hid hI
  clear hS hI
  have hM0 := (Mm.start w).alloc m.cells.toArray 25
  have hi : (Try.prog.info? 25).map (·.size) = some m.cells.length := by rw [Mch.cells_length hwf]; kernel_rfl
  have HI := Lib.hid hi
  clear hi
  go_enter Try.func6, Try.ntmps6
  have hr1 : (w.alloc (.cells m.cells.toArray 25)).rangeAt w.heap.size 0 m.cells := hM0.mach 0 rfl
  go_wp2_with ((with_reducible refine ld_row ?_ 25 (.tmp 2) ?_ w.heap.size 0 ?_ m.cells (.struct _) hr1 Try.underlying25 ?_ HI.out ?_); exact rfl; exact rfl; exact rfl; exact rfl)
  refine (toMachine_any m hwf _).mono ?_
  rintro e w1 ⟨rfl, hb1⟩
  have hM1 := hM0.call hb1
  clear hM0 hr1
  go_wp2_with fail
  refine (HS.out _).mono ?_
  rintro e w3 ⟨rfl, hb3⟩
  have hM3 := hM1.call hb3
  have hr4 : w3.rangeAt w.heap.size 0 m.cells := hM3.mach 0 rfl
  clear hM1
  go_wp2_with ((with_reducible refine ld_row ?_ 25 (.tmp 2) ?_ w.heap.size 0 ?_ m.cells (.struct _) hr4 Try.underlying25 ?_ HI.out ?_); exact rfl; exact rfl; exact rfl; exact rfl)
  refine (toMachine_any m hwf _).mono ?_
  rintro e w5 ⟨rfl, hb5⟩
  have hM5 := hM3.call hb5
  clear hM3 hr4
  go_wp2_with fail
  refine (HIM.out _).mono ?_
  rintro e w6 ⟨rfl, hb6⟩
  have hbb := (hM5.call hb6).below
  clear hM5 HIM HS
  go_wp2_with fail
  go_ret
  exact ⟨rfl, hbb⟩

set_option maxRecDepth 100000 in
theorem lawIsOneTile_lifted (os : Os) (started : os.Started) (H : Type) (enc : TypeId × Value → H) :
    ReturnsInHanded {} Try.checked os 6 .any (Rows.fnExactIsOneTileSpec.pre6 enc Try.prog Try.f6 Rows.fnExactIsOneTileRow.domain false) (Rows.fnExactIsOneTileSpec.post enc Try.prog Try.f6 false true false false) := by
  refine returnsInHanded_of_change (C := Try.checked) Try.own started (by kernel_rfl) Try.func6
    (ChangeSpec.witness6 (enc := enc) (C := Try.checked) false ⟨#[], #[.agg ((Value.int .i64 0 :: Value.int .i64 0 :: List.replicate 96 (Value.int .u8 0)).toArray), .int .i64 0], []⟩ 8 (by kernel_rfl) (by kernel_rfl) (by kernel_rfl) (by kernel_rfl)) ?_
  intro W base args ds gs before hval0 hW _ _
  have hval : ∀ (j : Nat) t v, Try.f6.params[j]? = some t → args[j]? = some v → Value.okWide Try.prog W .any base t v := hval0
  have hW' := hW
  obtain ⟨p, q, hA0, hV, rfl, _, _⟩ := hW
  have hA : DataW.TrodAll enc Try.prog W 0 (fun _ => true) true Try.f6.params.toList args.toList ds p := hA0
  rw [Try.params6] at hA hval
  obtain ⟨v0, v1, d0, d1, p0, p1, rfl, rfl, rfl, h0, h1⟩ := trodAll_two hA
  obtain ⟨rfl, rfl⟩ := trodVars_none hV
  obtain ⟨m, hwf, rfl⟩ := open_mach (hval 0 25 v0 rfl rfl) h0
  obtain ⟨q, rfl, rfl, rfl, wx1⟩ := open_int Try.underlying2 (hval 1 2 v1 rfl rfl) h1
  refine (lawIsOneTile_core m hwf q _ _ (fun w => specIsOneTile_any m hwf q w) (fun w => implIsOneTile_any m hwf q w) W).mono fun e W' ⟨he, hb⟩ => ⟨_, he, ?_⟩
  exact law_post Try.laidOut (by kernel_rfl) hW' rfl rfl rfl rfl hb rfl Try.underlying4

theorem isOneTile_closed : joinedFacts Try.checked.prog 6 Try.f6 Rows.fnExactIsOneTileSpec Rows.fnExactIsOneTileRow = true := by
  unfold joinedFacts
  rw [c_enter, c_lifts, c_make]
  kernel_rfl

theorem isOneTile_holds : Rows.FnExactIsOneTileSaid :=
  OpenClaim.holds_of_wide 6 Try.f6 rfl rfl rfl rfl rfl rfl rfl ⟨rfl, rfl, rfl, rfl, rfl⟩ rfl rfl rfl rfl rfl (by kernel_rfl) Try.func6 isOneTile_closed
    (of_decide_eq_true (by kernel_rfl)) (by unfold Func.isWrapper; first | (rw [if_pos (by decide +kernel)]; kernel_rfl) | (rw [if_neg (by decide +kernel)]; exact ⟨rfl, rfl⟩))
    (fun os started H enc _ => lawIsOneTile_lifted os started H enc)
#print axioms isOneTile_holds
end Go.Proofs.Ythgkkaifdlkciaa
