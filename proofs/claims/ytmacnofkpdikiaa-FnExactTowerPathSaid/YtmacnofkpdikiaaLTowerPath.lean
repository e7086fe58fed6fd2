/- TowerPath returns what its reference returns, for all arguments. No condition. -/
import Derived.Test.YtmacnofkpdikiaaL
import Derived.Test.YtmacnofkpdikiaaTP9
namespace Go.Proofs.Ytmacnofkpdikiaa
open Go.ChangeShapes Go.WideShapes Go.ChangeAt Go.RowKit
open Go.ChangeMaps (open_string shut_string)
set_option linter.unusedVariables false
set_option linter.unusedSimpArgs false

set_option maxRecDepth 100000 in
set_option maxHeartbeats 1000000 in
theorem lawTowerPath_core (s r : ByteArray) (D : ByteArray) (T : Int) (hS : ∀ w, Calls Try.prog 24 #[.string s, .string r] w (Ret2 (.string D) (.int .i64 T) w)) (hI : ∀ w, Calls Try.prog 25 #[.string s, .string r] w (Ret2 (.string D) (.int .i64 T) w)) (w : World) (hs : s.size ≤ maxLen) (hr : r.size ≤ maxLen) :
    Calls Try.prog 6 #[.string s, .string r] w (Ret (.bool true) w) := by
  have HS := Lib.hid hS
  have HIM := Lib.hid hI
  simp only [maxLen] at hs hr
  clear hS hI
  go_enter Try.func6, Try.ntmps6
  by_cases hl : (1048576 : Int) < s.size
  · go_wp2_with fail
    go_ret
    exact ⟨rfl, Below.refl _ _⟩
  by_cases hl2 : (1048576 : Int) < r.size
  · go_wp2_with fail
    go_ret
    exact ⟨rfl, Below.refl _ _⟩
  go_wp2_with fail
  refine (HS.out _).mono ?_
  rintro e w1 ⟨rfl, hb1⟩
  go_wp2_with fail
  refine (HIM.out _).mono ?_
  rintro e w2 ⟨rfl, hb2⟩
  go_wp2_with fail
  go_ret
  exact ⟨rfl, hb1.trans (hb2.mono hb1.size)⟩

set_option maxRecDepth 100000 in
theorem lawTowerPath_lifted (os : Os) (started : os.Started) (H : Type) (enc : TypeId × Value → H) :
    ReturnsInHanded {} Try.checked os 6 .any (Rows.fnExactTowerPathSpec.pre6 enc Try.prog Try.f6 Rows.fnExactTowerPathRow.domain false) (Rows.fnExactTowerPathSpec.post enc Try.prog Try.f6 false true false false) := by
  refine returnsInHanded_of_change (C := Try.checked) Try.own started (by kernel_rfl) Try.func6
    (ChangeSpec.witness6 (enc := enc) (C := Try.checked) false ⟨#[], #[.string ByteArray.empty, .string ByteArray.empty], []⟩ 8 (by kernel_rfl) (by kernel_rfl) (by kernel_rfl) (by kernel_rfl)) ?_
  intro W base args ds gs before hval0 hW _ _
  have hval : ∀ (j : Nat) t v, Try.f6.params[j]? = some t → args[j]? = some v → Value.okWide Try.prog W .any base t v := hval0
  have hW' := hW
  obtain ⟨p, q, hA0, hV, rfl, _, _⟩ := hW
  have hA : DataW.TrodAll enc Try.prog W 0 (fun _ => true) true Try.f6.params.toList args.toList ds p := hA0
  rw [Try.params6] at hA hval
  obtain ⟨v0, v1, d0, d1, p0, p1, rfl, rfl, rfl, h0, h1⟩ := trodAll_two hA
  obtain ⟨rfl, rfl⟩ := trodVars_none hV
  obtain ⟨s, rfl, rfl, rfl, hmax0⟩ := open_string Try.underlying9 (hval 0 9 v0 rfl rfl) h0
  obtain ⟨r, rfl, rfl, rfl, hmax1⟩ := open_string Try.underlying9 (hval 1 9 v1 rfl rfl) h1
  refine (lawTowerPath_core s r _ _ (fun w => specTowerPath_any s r (by simpa [Short, maxLen] using hmax0) (by simpa [Short, maxLen] using hmax1) w) (fun w => implTowerPath_any s r (by simpa [Short, maxLen] using hmax0) (by simpa [Short, maxLen] using hmax1) w) W (by simpa [Short, maxLen] using hmax0) (by simpa [Short, maxLen] using hmax1)).mono fun e W' ⟨he, hb⟩ => ⟨_, he, ?_⟩
  exact law_post Try.laidOut (by kernel_rfl) hW' rfl rfl rfl rfl hb rfl Try.underlying4

theorem towerPath_holds : Rows.FnExactTowerPathSaid :=
  OpenClaim.holds_of_wide 6 Try.f6 rfl rfl rfl rfl rfl rfl rfl ⟨rfl, rfl, rfl, rfl, rfl⟩ rfl rfl rfl rfl rfl (by kernel_rfl) Try.func6 (by kernel_rfl)
    (of_decide_eq_true (by kernel_rfl)) (by unfold Func.isWrapper; first | (rw [if_pos (by decide +kernel)]; kernel_rfl) | (rw [if_neg (by decide +kernel)]; exact ⟨rfl, rfl⟩))
    (fun os started H enc _ => lawTowerPath_lifted os started H enc)
#print axioms towerPath_holds
end Go.Proofs.Ytmacnofkpdikiaa
