/- ActivityCounts of the reference. -/
import Derived.Test.YtmacnofkpdikiaaQ2
namespace Go.Proofs.Ytmacnofkpdikiaa
open Go.RowKit
set_option linter.unusedVariables false
set_option linter.unusedSimpArgs false

theorem codeP_nil (m : Mch) (q : Int) : codeP m q ⟨#[]⟩ = if machP m then (if inR q 0 (m.S - 1) then 0 else 2) else 1 := by
  have : wordP m.L ⟨#[]⟩ = true := rfl
  simp [codeP, this]

set_option maxRecDepth 100000 in
set_option maxHeartbeats 1000000 in
theorem l07State_any (m : Mch) (hwf : m.Wf) (q : Int) (w : World) :
    Calls Try.prog 79 #[.agg m.cells.toArray, .int .i64 q] w (Ret (.int .i64 (codeP m q ⟨#[]⟩)) w) := by
  have hm := MAt.boxed w m 44
  have hb0 := boxedBelow w m.cells.toArray 44
  have HC := Lib.hid (codeP_nil m q)
  go_enter Try.func79, Try.ntmps79
  go_wp2_with ((with_reducible refine ld_mach ?_ (.tmp 2) ?_ (w.heap.size) (0) ?_ m hm hwf ?_); exact rfl; exact rfl; exact rfl)
  refine (l01Is_any m hwf _).mono ?_
  rintro e w1 ⟨rfl, hb1⟩
  have hm1 := hm.keep hb1 hwf
  have hbb1 := hb0.trans (hb1.mono hb0.size)
  have hs1 := hm1.s
  by_cases c1 : machP m = true
  · have hok := mach_ok c1
    have hs16 := hok.s16
    have hs1' := hok.s1
    rw [c1]
    by_cases c2 : inR q 0 (m.S - 1) = true
    · have HF := Lib.hid (show codeP m q ⟨#[]⟩ = 0 by rw [HC.out, if_pos c1, if_pos c2])
      clear c1 HC
      go_wp2_with (go_at_call 53; refine (l01In_any _ _ _ _).mono ?_; rintro e w' ⟨rfl, rfl⟩)
      go_ret
      exact ⟨ret_int HF.out.symm, hbb1⟩
    · have HF := Lib.hid (show codeP m q ⟨#[]⟩ = 2 by rw [HC.out, if_pos c1, if_neg c2])
      have c2' : inR q 0 (m.S - 1) = false := by simpa using c2
      clear c1 c2 HC
      go_wp2_with (go_at_call 53; refine (l01In_any _ _ _ _).mono ?_; rintro e w' ⟨rfl, rfl⟩)
      go_ret
      exact ⟨ret_int HF.out.symm, hbb1⟩
  · have HF := Lib.hid (show codeP m q ⟨#[]⟩ = 1 by rw [HC.out, if_neg c1])
    have c1' : machP m = false := by simpa using c1
    rw [c1']
    clear c1 HC
    go_wp2_with fail
    go_ret
    exact ⟨ret_int HF.out.symm, hbb1⟩
end Go.Proofs.Ytmacnofkpdikiaa
