/- ActiveAt returns what its reference returns, for all arguments. No condition. -/
import Derived.Test.YtmacnofkpdikiaaJ
import Derived.Test.YtmacnofkpdikiaaZ1
namespace Go.Proofs.Ytmacnofkpdikiaa
open Go.ChangeShapes Go.WideShapes Go.ChangeAt Go.RowKit
open Go.ChangeMaps (open_string shut_string)
set_option linter.unusedVariables false
set_option linter.unusedSimpArgs false

set_option maxRecDepth 100000 in
set_option maxHeartbeats 1000000 in
theorem lawActiveAt_walk (m : Mch) (hwf : m.Wf) (q : Int) (s : ByteArray) (hs : Short s) (w : World) :
    Calls Try.prog 8 #[.agg m.cells.toArray, .int .i64 q, .string s] w (Ret (.bool true) w) := by
  have hm := MAt.boxed w m 38
  have hb0 := boxedBelow w m.cells.toArray 38
  have HW := Lib.hid hwf
  go_enter Try.func8, Try.ntmps8
  by_cases hl : (1048576 : Int) < s.size
  · go_wp2_with fail
    go_ret
    exact ⟨rfl, hb0⟩
  · have hi : (Try.prog.info? 38).map (·.size) = some m.cells.length := by rw [Mch.cells_length hwf]; kernel_rfl
    have HI := Lib.hid hi
    have hr : (w.alloc (.cells m.cells.toArray 38)).rangeAt w.heap.size 0 m.cells := hm
    clear hi
    go_wp2_with ((with_reducible refine ld_row ?_ 38 (.tmp 3) ?_ w.heap.size 0 ?_ m.cells (.struct _) hr Try.underlying38 ?_ HI.out ?_); exact rfl; exact rfl; exact rfl; exact rfl)
    refine (toMachine_any m hwf _).mono ?_
    rintro e w1 ⟨rfl, hb1⟩
    have hbb1 := hb0.trans (hb1.mono hb0.size)
    have hm1 := hm.keep hb1 hwf
    go_wp2_with fail
    refine (specActiveAt_any m hwf q s hs _).mono ?_
    rintro e w2 ⟨rfl, hb2⟩
    have hbb2 := hbb1.trans (hb2.mono hbb1.size)
    have hm2 := hm1.keep hb2 hwf
    have hr2 : w2.rangeAt w.heap.size 0 m.cells := hm2
    go_wp2_with ((with_reducible refine ld_row ?_ 38 (.tmp 3) ?_ w.heap.size 0 ?_ m.cells (.struct _) hr2 Try.underlying38 ?_ HI.out ?_); exact rfl; exact rfl; exact rfl; exact rfl)
    refine (toMachine_any m hwf _).mono ?_
    rintro e w3 ⟨rfl, hb3⟩
    have hbb3 := hbb2.trans (hb3.mono hbb2.size)
    go_wp2_with fail
    refine (implActiveAt_any m hwf q s hs _).mono ?_
    rintro e w4 ⟨rfl, hb4⟩
    have hbb4 := hbb3.trans (hb4.mono hbb3.size)
    generalize actB m q s = bb
    generalize codeP m q s = c
    clear hm hm1 hm2 hr hr2
    go_wp2_with fail
    go_ret
    exact ⟨rfl, hbb4⟩

set_option maxRecDepth 100000 in
theorem lawActiveAt_lifted (os : Os) (started : os.Started) (H : Type) (enc : TypeId × Value → H) :
    ReturnsInHanded {} Try.checked os 8 .any (Rows.fnExactActiveAtSpec.pre6 enc Try.prog Try.f8 Rows.fnExactActiveAtRow.domain false) (Rows.fnExactActiveAtSpec.post enc Try.prog Try.f8 false true false false) := by
  refine returnsInHanded_of_change (C := Try.checked) Try.own started (by kernel_rfl) Try.func8
    (ChangeSpec.witness6 (enc := enc) (C := Try.checked) false ⟨#[], #[.agg ((Value.int .i64 0 :: Value.int .i64 0 :: List.replicate 96 (Value.int .u8 0)).toArray), .int .i64 0, .string ByteArray.empty], []⟩ 8 (by kernel_rfl) (by kernel_rfl) (by kernel_rfl) (by kernel_rfl)) ?_
  intro W base args ds gs before hval0 hW _ _
  have hval : ∀ (j : Nat) t v, Try.f8.params[j]? = some t → args[j]? = some v → Value.okWide Try.prog W .any base t v := hval0
  have hW' := hW
  obtain ⟨p, q, hA0, hV, rfl, _, _⟩ := hW
  have hA : DataW.TrodAll enc Try.prog W 0 (fun _ => true) true Try.f8.params.toList args.toList ds p := hA0
  rw [Try.params8] at hA hval
  obtain ⟨v0, v1, v2, d0, d1, d2, p0, p1, p2, rfl, rfl, rfl, h0, h1, h2⟩ := trodAll_three hA
  obtain ⟨rfl, rfl⟩ := trodVars_none hV
  obtain ⟨m, hwf, rfl⟩ := open_mach (hval 0 38 v0 rfl rfl) h0
  obtain ⟨x, rfl, rfl, rfl, wx⟩ := open_int Try.underlying2 (hval 1 2 v1 rfl rfl) h1
  obtain ⟨s, rfl, rfl, rfl, hmax⟩ := open_string Try.underlying9 (hval 2 9 v2 rfl rfl) h2
  refine (lawActiveAt_walk m hwf x s (by simpa [Short, maxLen] using hmax) W).mono fun e W' ⟨he, hb⟩ => ⟨_, he, ?_⟩
  exact law_post Try.laidOut (by kernel_rfl) hW' rfl rfl rfl rfl hb rfl Try.underlying4

theorem activeAt_holds : Rows.FnExactActiveAtSaid :=
  OpenClaim.holds_of_wide 8 Try.f8 rfl rfl rfl rfl rfl rfl rfl ⟨rfl, rfl, rfl, rfl, rfl⟩ rfl rfl rfl rfl rfl (by kernel_rfl) Try.func8 (by kernel_rfl)
    (of_decide_eq_true (by kernel_rfl)) (by unfold Func.isWrapper; first | (rw [if_pos (by decide +kernel)]; kernel_rfl) | (rw [if_neg (by decide +kernel)]; exact ⟨rfl, rfl⟩))
    (fun os started H enc _ => lawActiveAt_lifted os started H enc)
#print axioms activeAt_holds
end Go.Proofs.Ytmacnofkpdikiaa
