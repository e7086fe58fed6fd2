/- TowerDistance and TowerPath of the program. -/
import Derived.Test.YtmacnofkpdikiaaTP7
namespace Go.Proofs.Ytmacnofkpdikiaa
open Go.RowKit
set_option linter.unusedVariables false
set_option linter.unusedSimpArgs false
set_option linter.unusedSectionVars false

set_option maxRecDepth 100000 in
set_option maxHeartbeats 2000000 in
theorem implTowerDistance_any (s v : ByteArray) (hs : Short s) (hv : Short v) (w : World) :
    Calls Try.prog 23 #[.string s, .string v] w (Ret2 (.int .i64 (tdD s v)) (.int .i64 (towC (two s v) 2)) w) := by
  have hcell := two_cell w s v 9
  have HT := Lib.hid (towersCode_any w.heap.size 2 (two s v) (w.alloc (.cells #[.string s, .string v] 9)) (by omega) (by omega) (two_short hs hv) hcell)
  have hb0 : Below w.heap.size w (w.alloc (.cells #[.string s, .string v] 9)) := (Below.refl _ _).alloc (Nat.le_refl _) _
  clear hcell hs hv
  go_enter Try.func23, Try.ntmps23
  go_wp2_with fail
  refine HT.out.mono ?_
  rintro e w1 ⟨rfl, m, e1⟩
  have hb1 : Below w.heap.size w w1 := by rw [e1]; exact below_dN hb0 m
  clear e1 hb0 HT
  by_cases c0 : towC (two s v) 2 = 0
  · obtain ⟨h5, hos, hov⟩ := two_ok c0
    have HD : Hid (tdD s v = (gLen (fstE s v) : Int)) := by show _ = _; rw [tdD, if_pos c0]
    have HC := Lib.hid c0
    have HP := Lib.hid (towerPath_any s.size h5 s v hos hov)
    have hsz := gTxt_size (fstE s v)
    rw [c0]
    clear c0 hos hov h5
    generalize gLen (fstE s v) = D at *
    generalize gTxt (fstE s v) = T at *
    go_wp2_with fail
    refine (HP.out _).mono ?_
    rintro e w2 ⟨rfl, hb2⟩
    have hbb := hb1.trans (hb2.mono hb1.size)
    go_wp2_with fail
    go_ret2
    rw [HC.out, HD.out]
    exact ⟨rfl, hbb⟩
  · have HD : Hid (tdD s v = 0) := by show _ = _; rw [tdD, if_neg c0]
    have hr := towC_range (two s v) 2
    have c1 : (towC (two s v) 2 != 0) = true := by simpa using c0
    generalize towC (two s v) 2 = T at *
    clear c0
    go_wp2_with fail
    go_ret2
    rw [HD.out]
    exact ⟨rfl, hb1⟩

/-- TowerPath's text -/
noncomputable def tpS (s v : ByteArray) : ByteArray := if towC (two s v) 2 = 0 then gTxt (fstE s v) else ⟨#[]⟩
set_option maxRecDepth 100000 in
set_option maxHeartbeats 2000000 in
theorem implTowerPath_any (s v : ByteArray) (hs : Short s) (hv : Short v) (w : World) :
    Calls Try.prog 25 #[.string s, .string v] w (Ret2 (.string (tpS s v)) (.int .i64 (towC (two s v) 2)) w) := by
  have hcell := two_cell w s v 9
  have HT := Lib.hid (towersCode_any w.heap.size 2 (two s v) (w.alloc (.cells #[.string s, .string v] 9)) (by omega) (by omega) (two_short hs hv) hcell)
  have hb0 : Below w.heap.size w (w.alloc (.cells #[.string s, .string v] 9)) := (Below.refl _ _).alloc (Nat.le_refl _) _
  clear hcell hs hv
  go_enter Try.func25, Try.ntmps25
  go_wp2_with fail
  refine HT.out.mono ?_
  rintro e w1 ⟨rfl, m, e1⟩
  have hb1 : Below w.heap.size w w1 := by rw [e1]; exact below_dN hb0 m
  clear e1 hb0 HT
  by_cases c0 : towC (two s v) 2 = 0
  · obtain ⟨h5, hos, hov⟩ := two_ok c0
    have HD : Hid (tpS s v = gTxt (fstE s v)) := by show _ = _; rw [tpS, if_pos c0]
    have HC := Lib.hid c0
    have HP := Lib.hid (towerPath_any s.size h5 s v hos hov)
    rw [c0]
    clear c0 hos hov h5
    generalize gTxt (fstE s v) = T at *
    go_wp2_with fail
    refine (HP.out _).mono ?_
    rintro e w2 ⟨rfl, hb2⟩
    have hbb := hb1.trans (hb2.mono hb1.size)
    go_wp2_with fail
    go_ret2
    rw [HC.out, HD.out]
    exact ⟨rfl, hbb⟩
  · have HD : Hid (tpS s v = ⟨#[]⟩) := by show _ = _; rw [tpS, if_neg c0]
    have hr := towC_range (two s v) 2
    have c1 : (towC (two s v) 2 != 0) = true := by simpa using c0
    generalize towC (two s v) 2 = T at *
    clear c0
    go_wp2_with fail
    go_ret2
    rw [HD.out]
    exact ⟨rfl, hb1⟩
end Go.Proofs.Ytmacnofkpdikiaa
