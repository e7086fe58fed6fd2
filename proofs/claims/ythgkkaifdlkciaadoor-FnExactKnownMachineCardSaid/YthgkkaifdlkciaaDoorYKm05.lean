import Derived.Test.YthgkkaifdlkciaaDoorYKm04
import Derived.Test.YthgkkaifdlkciaaDoorYKm03
import Derived.Test.YthgkkaifdlkciaaDoorYKm01
import Derived.Test.YthgkkaifdlkciaaDoorYKm02
import Derived.StillTailTactics
/- KnownMachine of both sides. -/
namespace Go.Proofs.YthgkkaifdlkciaaDoor
open Go.RowKit
set_option linter.unusedVariables false
set_option linter.unusedSimpArgs false

theorem kt_knTx : ∀ k, k < 8 → kt k = knTx k := fun k hk => by
  rcases (by omega : k = 0 ∨ k = 1 ∨ k = 2 ∨ k = 3 ∨ k = 4 ∨ k = 5 ∨ k = 6 ∨ k = 7) with rfl | rfl | rfl | rfl | rfl | rfl | rfl | rfl <;> rfl
/-- the known machines -/
def knM (k : Nat) : Mch := prs (knTx k)
theorem knM_text {k : Nat} (h : k < 8) : TextOf (knM k) (kt k) := by rw [kt_knTx k h]; exact kn_text h
/-- what KnownMachine returns: the cells of a machine, and a code -/
noncomputable def kmC (s : ByteArray) : List Value := if kno s < 8 then (knM (kno s)).cells else Tryd.zeroCells25.toList
def kmK (s : ByteArray) : Int := if kno s < 8 then 0 else 4

/-- the text of a known machine -/
def l08T (s : ByteArray) : ByteArray := if kno s < 8 then kt (kno s) else ⟨#[]⟩
set_option maxRecDepth 100000 in
set_option maxHeartbeats 2000000 in
theorem l08Text2_any (s : ByteArray) (w : World) : Calls Tryd.prog 14 #[.string s] w fun e w' => e = .returned (.string (l08T s)) ∧ Below w.heap.size w w' := by
  by_cases h8 : ∃ i, i < 8 ∧ (s.toList == kn i) = true
  · obtain ⟨i, hi, h⟩ := h8
    have hk := Lib.hid (kno_of hi h)
    have e : s.toList = kn i := by simpa using h
    clear h
    go_enter Tryd.func14, Tryd.ntmps14
    rcases (by omega : i = 0 ∨ i = 1 ∨ i = 2 ∨ i = 3 ∨ i = 4 ∨ i = 5 ∨ i = 6 ∨ i = 7) with rfl | rfl | rfl | rfl | rfl | rfl | rfl | rfl <;>
    · simp only [kn] at e
      go_wp2_with fail
      go_ret
      exact ⟨by rw [l08T, hk.out]; rfl, Below.refl _ _⟩
  · have h : ∀ i, i < 8 → (s.toList == kn i) = false := fun i hi => by
      cases hh : s.toList == kn i
      · rfl
      · exact absurd ⟨i, hi, hh⟩ h8
    have hk := Lib.hid (kno_none h)
    have g0 := h 0 (by omega)
    have g1 := h 1 (by omega)
    have g2 := h 2 (by omega)
    have g3 := h 3 (by omega)
    have g4 := h 4 (by omega)
    have g5 := h 5 (by omega)
    have g6 := h 6 (by omega)
    have g7 := h 7 (by omega)
    simp only [kn] at g0 g1 g2 g3 g4 g5 g6 g7
    clear h h8
    go_enter Tryd.func14, Tryd.ntmps14
    go_wp2_with fail
    go_ret
    exact ⟨by rw [l08T, hk.out]; rfl, Below.refl _ _⟩

set_option maxRecDepth 100000 in
set_option maxHeartbeats 1000000 in
theorem l01Read_nil (w : World) : Calls Tryd.prog 13 #[.string ⟨#[]⟩] w (Ret (.tuple #[.agg Tryd.zeroCells25, .bool false]) w) := by
  have hM0 := (Mm.start w).alloc Tryd.zeroCells25 25
  have hz1 : ∀ v ∈ Tryd.zeroCells25.toList, v.oneCell' = true := List.all_eq_true.1 (by kernel_rfl)
  have hzi : (Tryd.prog.info? 25).map (·.size) = some Tryd.zeroCells25.toList.length := by rw [zero_len]; kernel_rfl
  have ht := (hM0.at 0 rfl).there 0 Tryd.zeroCells25.toList.length (by simp only; omega)
  have hM1 := hM0.setAll 0 rfl (vs := Tryd.zeroCells25.toList) rfl
  simp only [List.set_cons_zero] at hM1
  have HI := Lib.hid hzi
  have H1 := Lib.hid hz1
  have HB := Lib.hid (hM1.at 0 rfl)
  have HBL := Lib.hid hM1.below
  clear hM0 hM1 hz1 hzi
  go_enter Tryd.func13, Tryd.ntmps13
  go_wp2_with ((with_reducible refine st_row ?_ 25 (.tmp 2) (.tmp 28) ?_ w.heap.size 0 Tryd.zeroCells25.toList ?_ ?_ ht HI.out H1.out ?_); exact rfl; exact rfl; exact rfl; exact rfl)
  exact bodyPost_ret (v := .tuple #[.agg Tryd.zeroCells25, .bool false]) (results_cell_tmp Tryd.results13 _ _ w.heap.size 25 Tryd.zeroCells25 (0, 0) (.struct _) rfl HB.out Tryd.underlying25 rfl (HI.out.trans (by rw [Array.length_toList]))) rfl ⟨rfl, HBL.out⟩

set_option maxRecDepth 100000 in
set_option maxHeartbeats 1000000 in
theorem specKnownMachine_any (s : ByteArray) (w : World) : Calls Tryd.prog 5 #[.string s] w (Ret (.tuple #[.agg (kmC s).toArray, .int .i64 (kmK s)]) w) := by
  have hM0 := (Mm.start w).alloc Tryd.zeroCells25 25
  have HM0 := Lib.hid hM0
  have hz1 : ∀ v ∈ Tryd.zeroCells25.toList, v.oneCell' = true := List.all_eq_true.1 (by kernel_rfl)
  have hzi : (Tryd.prog.info? 25).map (·.size) = some Tryd.zeroCells25.toList.length := by rw [zero_len]; kernel_rfl
  have HZI := Lib.hid hzi
  have HZ1 := Lib.hid hz1
  clear hM0 hz1 hzi
  go_enter Tryd.func5, Tryd.ntmps5
  go_wp2_with fail
  refine (l08Text2_any s _).mono ?_
  rintro e w1 ⟨rfl, hb1⟩
  have hM1 := HM0.out.call hb1
  clear hb1 HM0
  by_cases hk : kno s < 8
  · have HC : Hid (kmC s = (knM (kno s)).cells ∧ kmK s = 0) := ⟨if_pos hk, if_pos hk⟩
    rw [l08T, if_pos hk]
    have HRD := Lib.hid (l01Read_any _ _ (knM_text hk))
    have hwf := (knM_text hk).wf
    clear hk
    generalize knM (kno s) = m at *
    generalize kt (kno s) = t at *
    have HIT := Lib.hid (mach_infoT hwf)
    have HM1 := Lib.hid (mach_ones m)
    have HML := Lib.hid (Mch.cells_length hwf)
    have HMM := Lib.hid hM1
    clear hM1
    go_wp2_with fail
    refine (HRD.out _).mono ?_
    rintro e w2 ⟨rfl, hb2⟩
    have hM2 := (HMM.out.call hb2).alloc Tryd.zeroCells25 25
    have ht := (hM2.at 0 rfl).there 0 m.cells.length (by simp only; rw [zero_len, HML.out]; omega)
    have hM3 := hM2.setAll 0 rfl (vs := m.cells) (by rw [zero_len, HML.out])
    simp only [List.set_cons_zero] at hM3
    have hm3 := hM3.mach 0 rfl
    have ht2 := (hM3.at 1 rfl).there 0 m.cells.length (by simp only; rw [zero_len, HML.out]; omega)
    have hM4 := hM3.setAll 1 rfl (vs := m.cells) (by rw [zero_len, HML.out])
    simp only [List.set_cons_zero, List.set_cons_succ] at hM4
    have HB1 := Lib.hid (hM4.at 1 rfl)
    have HBL := Lib.hid hM4.below
    clear hb2 HMM hM2 hM3 hM4 HRD
    go_wp2_with (first | ((with_reducible refine st_row ?_ 25 (.tmp 4) (.tmp 10) ?_ w2.heap.size 0 m.cells ?_ ?_ ht HIT.out HM1.out ?_); exact rfl; exact rfl; exact rfl; exact rfl) | ((with_reducible refine ld_mach ?_ (.tmp 4) ?_ w2.heap.size 0 ?_ m hm3 hwf ?_); exact rfl; exact rfl; exact rfl) | ((with_reducible refine st_row ?_ 25 (.tmp 2) (.tmp 15) ?_ w.heap.size 0 m.cells ?_ ?_ ht2 HIT.out HM1.out ?_); exact rfl; exact rfl; exact rfl; exact rfl))
    exact bodyPost_ret (v := .tuple #[.agg m.cells.toArray, .int .i64 0]) (results_cell_tmp Tryd.results5 _ _ w.heap.size 25 m.cells.toArray (0, 0) (.struct _) rfl HB1.out Tryd.underlying25 rfl (HIT.out.trans (by rw [List.size_toArray]))) rfl ⟨by rw [HC.out.1, HC.out.2], HBL.out⟩
  · have HC : Hid (kmC s = Tryd.zeroCells25.toList ∧ kmK s = 4) := ⟨if_neg hk, if_neg hk⟩
    rw [l08T, if_neg hk]
    have HMM := Lib.hid hM1
    clear hM1 hk
    go_wp2_with fail
    refine (l01Read_nil _).mono ?_
    rintro e w2 ⟨rfl, hb2⟩
    have hM2 := (HMM.out.call hb2).alloc Tryd.zeroCells25 25
    have ht := (hM2.at 0 rfl).there 0 Tryd.zeroCells25.toList.length (by simp only; omega)
    have hM3 := hM2.setAll 0 rfl (vs := Tryd.zeroCells25.toList) rfl
    simp only [List.set_cons_zero] at hM3
    have ht2 := (hM3.at 1 rfl).there 0 Tryd.zeroCells25.toList.length (by simp only; omega)
    have hM4 := hM3.setAll 1 rfl (vs := Tryd.zeroCells25.toList) rfl
    simp only [List.set_cons_zero, List.set_cons_succ] at hM4
    have HB1 := Lib.hid (hM4.at 1 rfl)
    have HBL := Lib.hid hM4.below
    clear hb2 HMM hM2 hM3 hM4
    go_wp2_with (first | ((with_reducible refine st_row ?_ 25 (.tmp 4) (.tmp 10) ?_ w2.heap.size 0 Tryd.zeroCells25.toList ?_ ?_ ht HZI.out HZ1.out ?_); exact rfl; exact rfl; exact rfl; exact rfl) | ((with_reducible refine st_row ?_ 25 (.tmp 2) (.tmp 14) ?_ w.heap.size 0 Tryd.zeroCells25.toList ?_ ?_ ht2 HZI.out HZ1.out ?_); exact rfl; exact rfl; exact rfl; exact rfl))
    exact bodyPost_ret (v := .tuple #[.agg Tryd.zeroCells25, .int .i64 4]) (results_cell_tmp Tryd.results5 _ _ w.heap.size 25 Tryd.zeroCells25 (0, 0) (.struct _) rfl HB1.out Tryd.underlying25 rfl (HZI.out.trans (by rw [Array.length_toList]))) rfl ⟨by rw [HC.out.1, HC.out.2], HBL.out⟩

theorem known_info (x y : ByteArray) (a : Option Addr) (l c : Nat) : (Tryd.prog.info? 42).map (·.size) = some [Value.string x, Value.string y, Value.slice a l c].length := by
  show _ = some 3; kernel_rfl

set_option maxRecDepth 100000 in
set_option maxHeartbeats 1000000 in
theorem implKnownMachine_any (s : ByteArray) (mx : Int) (w : World) (hml : w.cell? ⟨Tryd.lCut_ren.g 1, 0, none⟩ = some (.int .i64 mx)) : Calls Tryd.prog 6 #[.string s] w (Ret (.tuple #[.agg (kmC s).toArray, .int .i64 (kmK s)]) w) := by
  have hM0 := (Mm.start w).alloc Tryd.zeroCells25 25
  have HM0 := Lib.hid hM0
  have hlt0 : Tryd.lCut_ren.g 1 < w.heap.size := World.block_lt_of_cell? w _ hml
  have HML0 : Hid (∀ W, Below w.heap.size w W → W.cell? ⟨Tryd.lCut_ren.g 1, 0, none⟩ = some (.int .i64 mx)) := fun W hW => (hW.cell hlt0).trans hml
  have hz1 : ∀ v ∈ Tryd.zeroCells25.toList, v.oneCell' = true := List.all_eq_true.1 (by kernel_rfl)
  have hzi : (Tryd.prog.info? 25).map (·.size) = some Tryd.zeroCells25.toList.length := by rw [zero_len]; kernel_rfl
  have HZI := Lib.hid hzi
  have HZ1 := Lib.hid hz1
  clear hM0 hz1 hzi hml hlt0
  go_enter Tryd.func6, Tryd.ntmps6
  go_wp2_with fail
  refine (find_any s _).mono ?_
  rintro e w1 ⟨x, y, a, l, c, rfl, hb1, hO⟩
  have hM1 := (HM0.out.call hb1).alloc #[.string ⟨#[]⟩, .string ⟨#[]⟩, .slice none 0 0] 42
  have ht := (hM1.at 0 rfl).there 0 [Value.string x, Value.string y, Value.slice a l c].length (by simp)
  have hM2 := hM1.setAll 0 rfl (vs := [Value.string x, Value.string y, Value.slice a l c]) rfl
  simp only [List.set_cons_zero] at hM2
  have HKI := Lib.hid (known_info x y a l c)
  have HK1 : Hid (∀ v ∈ [Value.string x, Value.string y, Value.slice a l c], v.oneCell' = true) := by
    intro v hv
    simp only [List.mem_cons, List.not_mem_nil, or_false] at hv
    rcases hv with rfl | rfl | rfl <;> rfl
  have c1 := (hM2.at 0 rfl).cell' (i := 1) rfl
  have HMM := Lib.hid hM2
  clear hb1 HM0 hM1 hM2
  by_cases hk : kno s < 8
  · have HC : Hid (kmC s = (knM (kno s)).cells ∧ kmK s = 0) := ⟨if_pos hk, if_pos hk⟩
    have hy := (hO hk).1
    have HPM := Lib.hid (ParseMachine_any _ _ (knM_text hk) mx)
    have hwf := (knM_text hk).wf
    rw [← hy] at HPM
    rw [decide_eq_true hk]
    clear hk hO hy
    generalize knM (kno s) = m at *
    have HIT := Lib.hid (mach_infoT hwf)
    have HM1 := Lib.hid (mach_ones m)
    have HML := Lib.hid (Mch.cells_length hwf)
    go_wp2_with ((with_reducible refine st_row ?_ 42 (.tmp 4) (.tmp 9) ?_ w1.heap.size 0 [Value.string x, Value.string y, Value.slice a l c] ?_ ?_ ht HKI.out HK1.out ?_); exact rfl; exact rfl; exact rfl; exact rfl)
    refine (HPM.out _ (HML0.out _ HMM.out.below)).mono ?_
    rintro e w2 ⟨rfl, hb2⟩
    have hM2 := HMM.out.call hb2
    have ht2 := (hM2.at 1 rfl).there 0 m.cells.length (by simp only; rw [zero_len, HML.out]; omega)
    have hM4 := hM2.setAll 1 rfl (vs := m.cells) (by rw [zero_len, HML.out])
    simp only [List.set_cons_zero, List.set_cons_succ] at hM4
    have HB1 := Lib.hid (hM4.at 1 rfl)
    have HBL := Lib.hid hM4.below
    clear hb2 HMM hM2 hM4 HPM
    go_wp2_with ((with_reducible refine st_row ?_ 25 (.tmp 2) (.tmp 17) ?_ w.heap.size 0 m.cells ?_ ?_ ht2 HIT.out HM1.out ?_); exact rfl; exact rfl; exact rfl; exact rfl)
    exact bodyPost_ret (v := .tuple #[.agg m.cells.toArray, .int .i64 0]) (results_cell_tmp Tryd.results6 _ _ w.heap.size 25 m.cells.toArray (0, 0) (.struct _) rfl HB1.out Tryd.underlying25 rfl (HIT.out.trans (by rw [List.size_toArray]))) rfl ⟨by rw [HC.out.1, HC.out.2], HBL.out⟩
  · have HC : Hid (kmC s = Tryd.zeroCells25.toList ∧ kmK s = 4) := ⟨if_neg hk, if_neg hk⟩
    rw [decide_eq_false hk]
    have ht2 := (HMM.out.at 1 rfl).there 0 Tryd.zeroCells25.toList.length (by simp only; omega)
    have hM4 := HMM.out.setAll 1 rfl (vs := Tryd.zeroCells25.toList) rfl
    simp only [List.set_cons_zero, List.set_cons_succ] at hM4
    have HB1 := Lib.hid (hM4.at 1 rfl)
    have HBL := Lib.hid hM4.below
    clear hk hO hM4 HMM
    go_wp2_with (first | ((with_reducible refine st_row ?_ 42 (.tmp 4) (.tmp 9) ?_ w1.heap.size 0 [Value.string x, Value.string y, Value.slice a l c] ?_ ?_ ht HKI.out HK1.out ?_); exact rfl; exact rfl; exact rfl; exact rfl) | ((with_reducible refine st_row ?_ 25 (.tmp 2) (.tmp 13) ?_ w.heap.size 0 Tryd.zeroCells25.toList ?_ ?_ ht2 HZI.out HZ1.out ?_); exact rfl; exact rfl; exact rfl; exact rfl))
    exact bodyPost_ret (v := .tuple #[.agg Tryd.zeroCells25, .int .i64 4]) (results_cell_tmp Tryd.results6 _ _ w.heap.size 25 Tryd.zeroCells25 (0, 0) (.struct _) rfl HB1.out Tryd.underlying25 rfl (HZI.out.trans (by rw [Array.length_toList]))) rfl ⟨by rw [HC.out.1, HC.out.2], HBL.out⟩
end Go.Proofs.YthgkkaifdlkciaaDoor

/- A machine as a table. -/
namespace Go.Proofs.YthgkkaifdlkciaaDoor
open Go.RowKit
set_option linter.unusedVariables false
set_option linter.unusedSimpArgs false

end Go.Proofs.YthgkkaifdlkciaaDoor

/- What the laws do with slices of numbers and machines that come in: copies, sizes, comparisons. -/
namespace Go.Proofs.YthgkkaifdlkciaaDoor
open Go.RowKit
set_option linter.unusedVariables false
set_option linter.unusedSimpArgs false

set_option maxHeartbeats 1000000 in
theorem eqByteA3_same (x y z : Int) (w : World) :
    Calls Tryd.prog 31 #[.agg #[.int .u8 x, .int .u8 y, .int .u8 z], .agg #[.int .u8 x, .int .u8 y, .int .u8 z]] w (Ret (.bool true) w) := by
  go_enter Tryd.func31, Tryd.ntmps31
  go_wp2
  refine wp_loop_rounds 4 ?_
  rw [rounds_succ]
  go_wp2
  go_quiet (fail)
  go_wp2
  rw [rounds_succ]
  go_wp2
  go_quiet (fail)
  go_wp2
  rw [rounds_succ]
  go_wp2
  go_quiet (fail)
  go_wp2
  rw [rounds_succ]
  go_wp2
  go_ret
  refine ⟨rfl, ?_⟩
  have hb := ((Below.refl w.heap.size w).alloc (Nat.le_refl _) (.cells #[.int .u8 x, .int .u8 y, .int .u8 z] 22)).alloc (by simp) (.cells #[.int .u8 x, .int .u8 y, .int .u8 z] 22)
  first | exact hb.drew.drew.drew | exact below_dN hb _ | exact below_dN (below_dN hb _) _ | exact below_dN (below_dN (below_dN hb _) _) _ | trace_state
end Go.Proofs.YthgkkaifdlkciaaDoor

/- Equal machines; group words of the reference and of the program. -/
namespace Go.Proofs.YthgkkaifdlkciaaDoor
open Go.RowKit
set_option linter.unusedVariables false
set_option linter.unusedSimpArgs false

set_option maxRecDepth 100000 in
set_option maxHeartbeats 1000000 in
theorem eqByteA3A16_same (xs : List Int) (hx : xs.length = 48) (w : World) :
    Calls Tryd.prog 17 #[.agg (u8s xs).toArray, .agg (u8s xs).toArray] w (Ret (.bool true) w) := by
  have HX := Lib.hid hx
  clear hx
  have hA := (Blk.new w (u8s xs).toArray 23).alloc (.cells (u8s xs).toArray 23)
  have hB := Blk.new (w.alloc (.cells (u8s xs).toArray 23)) (u8s xs).toArray 23
  have hb0 := ((Below.refl w.heap.size w).alloc (Nat.le_refl _) (.cells (u8s xs).toArray 23)).alloc (by simp) (.cells (u8s xs).toArray 23)
  rw [show (w.alloc (.cells (u8s xs).toArray 23)).heap.size = w.heap.size + 1 by simp] at hB
  go_enter Tryd.func17, Tryd.ntmps17
  go_wp2
  go_loopw [5] (fun i wr => ∃ k : Nat, k ≤ 16 ∧ i = .int .i64 k ∧ Blk wr w.heap.size (u8s xs) 23 ∧ Blk wr (w.heap.size + 1) (u8s xs) 23 ∧ Below w.heap.size w wr) (fun i _ => 16 - (intOf i).toNat)
  case atStart => exact ⟨0, by omega, rfl, hA, hB, hb0⟩
  case round =>
    clear hA hB hb0
    obtain ⟨k, hk, rfl, hA, hB, hb⟩ := hrel
    by_cases hlt : k < 16
    · have hx := HX.out
      have a0 := hA.cell' (u8s_get (i := k * 3) (by omega))
      have a1 := hA.cell' (u8s_get (i := k * 3 + 1) (by omega))
      have a2 := hA.cell' (u8s_get (i := k * 3 + 2) (by omega))
      have b0 := hB.cell' (u8s_get (i := k * 3) (by omega))
      have b1 := hB.cell' (u8s_get (i := k * 3 + 1) (by omega))
      have b2 := hB.cell' (u8s_get (i := k * 3 + 2) (by omega))
      clear hx
      generalize xs[k * 3]?.getD 0 = x0 at *
      generalize xs[k * 3 + 1]?.getD 0 = x1 at *
      generalize xs[k * 3 + 2]?.getD 0 = x2 at *
      have i1 : (k : Int) < 16 := by omega
      have i2 : (0 : Int) ≤ (k : Int) := by omega
      go_wp2_with fail
      go_still_tail 6, (by kernel_rfl)
      change wpList _ _ _ _ _ wr.drew
      clear a0 a1 a2 b0 b1 b2
      go_wp2_with fail
      refine (eqByteA3_same _ _ _ _).mono ?_
      rintro e w1 ⟨rfl, hb1⟩
      have hA1 := (hA.drewN 1).keep hb1
      have hB1 := (hB.drewN 1).keep hb1
      have hbb := (below_dN hb 1).trans (hb1.mono (Nat.le_of_lt hA.lt))
      clear hA hB
      go_wp2_with fail
      go_roundw
      case rel => exact ⟨k + 1, by omega, by go_num, hA1, hB1, hbb⟩
      case measure => simp [intOf]; omega
    · go_wp2
      go_ret
      exact ⟨rfl, hb⟩

theorem MAt.rangeN {w : World} {b o : Nat} {m : Mch} (h : MAt w b o m) (hw : m.Wf) : w.rangeAt b (o + 2) (u8s m.N) := fun j v hv => by
  have hj : j < m.N.length := by have := (List.getElem?_eq_some_iff.1 hv).1; simpa [u8s] using this
  rw [Nat.add_assoc]
  refine h (2 + j) v ?_
  simp only [Mch.cells]
  rw [show 2 + j = j + 1 + 1 by omega, List.getElem?_cons_succ, List.getElem?_cons_succ, List.getElem?_map, List.getElem?_append_left hj, ← List.getElem?_map]
  exact hv
theorem MAt.rangeO {w : World} {b o : Nat} {m : Mch} (h : MAt w b o m) (hw : m.Wf) : w.rangeAt b (o + 50) (u8s m.O) := fun j v hv => by
  have hj : j < m.O.length := by have := (List.getElem?_eq_some_iff.1 hv).1; simpa [u8s] using this
  have e := hw.nl
  rw [Nat.add_assoc]
  refine h (50 + j) v ?_
  simp only [Mch.cells]
  rw [show 50 + j = (48 + j) + 1 + 1 by omega, List.getElem?_cons_succ, List.getElem?_cons_succ, List.getElem?_map, List.getElem?_append_right (by omega), show 48 + j - m.N.length = j by omega, ← List.getElem?_map]
  exact hv

set_option maxRecDepth 100000 in
set_option maxHeartbeats 1000000 in
theorem eqMachine_same (m : Mch) (hw : m.Wf) (w : World) :
    Calls Tryd.prog 7 #[.agg m.cells.toArray, .agg m.cells.toArray] w (Ret (.bool true) w) := by
  have hA : MAt ((w.alloc (.cells m.cells.toArray 25)).alloc (.cells m.cells.toArray 25)) w.heap.size 0 m := (MAt.boxed w m 25).alloc (by simp) _
  have hB : MAt ((w.alloc (.cells m.cells.toArray 25)).alloc (.cells m.cells.toArray 25)) (w.heap.size + 1) 0 m := by
    have := MAt.boxed (w.alloc (.cells m.cells.toArray 25)) m 25
    rwa [show (w.alloc (.cells m.cells.toArray 25)).heap.size = w.heap.size + 1 by simp] at this
  have hb0 := ((Below.refl w.heap.size w).alloc (Nat.le_refl _) (.cells m.cells.toArray 25)).alloc (by simp) (.cells m.cells.toArray 25)
  have hN : Hid ((Tryd.prog.info? 23).map (·.size) = some (u8s m.N).length) := by show _ = _; rw [show (u8s m.N).length = 48 by simp [u8s, hw.nl]]; kernel_rfl
  have hO : Hid ((Tryd.prog.info? 23).map (·.size) = some (u8s m.O).length) := by show _ = _; rw [show (u8s m.O).length = 48 by simp [u8s, hw.ol]]; kernel_rfl
  have HW := Lib.hid hw
  go_enter Tryd.func7, Tryd.ntmps7
  have l1 := hA.l
  have l2 := hB.l
  have s1 := hA.s
  have s2 := hB.s
  have r1 := hA.rangeN hw
  have r2 := hB.rangeN hw
  go_wp2_with (first | ((with_reducible refine ld_row ?_ 23 (.tmp 15) ?_ w.heap.size 2 ?_ (u8s m.N) (.array 16 22) r1 Tryd.underlying23 ?_ hN.out ?_); exact rfl; exact rfl; exact rfl; exact rfl) | ((with_reducible refine ld_row ?_ 23 (.tmp 17) ?_ (w.heap.size + 1) 2 ?_ (u8s m.N) (.array 16 22) r2 Tryd.underlying23 ?_ hN.out ?_); exact rfl; exact rfl; exact rfl; exact rfl))
  refine (eqByteA3A16_same m.N HW.out.nl _).mono ?_
  rintro e w1 ⟨rfl, hb1⟩
  have hA1 := hA.below hb1 (by simp; omega)
  have hB1 := hB.below hb1 (by simp)
  have hbb := hb0.trans (hb1.mono hb0.size)
  have r3 := hA1.rangeO HW.out
  have r4 := hB1.rangeO HW.out
  clear l1 l2 s1 s2 r1 r2 hA hB
  go_wp2_with (first | ((with_reducible refine ld_row ?_ 23 (.tmp 21) ?_ w.heap.size 50 ?_ (u8s m.O) (.array 16 22) r3 Tryd.underlying23 ?_ hO.out ?_); exact rfl; exact rfl; exact rfl; exact rfl) | ((with_reducible refine ld_row ?_ 23 (.tmp 23) ?_ (w.heap.size + 1) 50 ?_ (u8s m.O) (.array 16 22) r4 Tryd.underlying23 ?_ hO.out ?_); exact rfl; exact rfl; exact rfl; exact rfl))
  refine (eqByteA3A16_same m.O HW.out.ol _).mono ?_
  rintro e w2 ⟨rfl, hb2⟩
  have hbb2 := hbb.trans (hb2.mono hbb.size)
  go_wp2_with fail
  go_ret
  exact ⟨rfl, hbb2⟩

end Go.Proofs.YthgkkaifdlkciaaDoor
