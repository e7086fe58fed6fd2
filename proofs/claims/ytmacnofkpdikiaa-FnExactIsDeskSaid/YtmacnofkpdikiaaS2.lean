/- Equal machines; group words of the reference and of the program. -/
import Derived.Test.YtmacnofkpdikiaaS1
import Derived.Test.YtmacnofkpdikiaaE
import Derived.Test.YtmacnofkpdikiaaV
import Derived.Test.YtmacnofkpdikiaaW1
import Derived.StillTailTactics
namespace Go.Proofs.Ytmacnofkpdikiaa
open Go.RowKit
set_option linter.unusedVariables false
set_option linter.unusedSimpArgs false

set_option maxRecDepth 100000 in
set_option maxHeartbeats 1000000 in
theorem eqByteA3A16_same (xs : List Int) (hx : xs.length = 48) (w : World) :
    Calls Try.prog 105 #[.agg (u8s xs).toArray, .agg (u8s xs).toArray] w (Ret (.bool true) w) := by
  have HX := Lib.hid hx
  clear hx
  have hA := (Blk.new w (u8s xs).toArray 36).alloc (.cells (u8s xs).toArray 36)
  have hB := Blk.new (w.alloc (.cells (u8s xs).toArray 36)) (u8s xs).toArray 36
  have hb0 := ((Below.refl w.heap.size w).alloc (Nat.le_refl _) (.cells (u8s xs).toArray 36)).alloc (by simp) (.cells (u8s xs).toArray 36)
  rw [show (w.alloc (.cells (u8s xs).toArray 36)).heap.size = w.heap.size + 1 by simp] at hB
  go_enter Try.func105, Try.ntmps105
  go_wp2
  go_loopw [5] (fun i wr => ∃ k : Nat, k ≤ 16 ∧ i = .int .i64 k ∧ Blk wr w.heap.size (u8s xs) 36 ∧ Blk wr (w.heap.size + 1) (u8s xs) 36 ∧ Below w.heap.size w wr) (fun i _ => 16 - (intOf i).toNat)
  case atStart => exact ⟨0, by omega, rfl, hA, hB, hb0⟩
  case round =>
    clear hA hB hb0
    obtain ⟨k, hk, rfl, hA, hB, hb⟩ := hrel
    by_cases hlt : k < 16
    · have hx := HX.out
      have a0 := hA.cell' (u8s_get (i := k * 3) (by omega))
      have a1 := hA.cell' (u8s_get (i := k * 3 + 1) (by omega))
      have a2 := hA.cell' (u8s_get (i := k * 3 + 2) (by omega))
      have b0 := hB.cell' (u8s_get (i := k * 3) (by omega))
      have b1 := hB.cell' (u8s_get (i := k * 3 + 1) (by omega))
      have b2 := hB.cell' (u8s_get (i := k * 3 + 2) (by omega))
      clear hx
      generalize xs[k * 3]?.getD 0 = x0 at *
      generalize xs[k * 3 + 1]?.getD 0 = x1 at *
      generalize xs[k * 3 + 2]?.getD 0 = x2 at *
      have i1 : (k : Int) < 16 := by omega
      have i2 : (0 : Int) ≤ (k : Int) := by omega
      go_wp2_with fail
      go_still_tail 6, (by kernel_rfl)
      change wpList _ _ _ _ _ wr.drew
      clear a0 a1 a2 b0 b1 b2
      go_wp2_with fail
      refine (eqByteA3_same _ _ _ _).mono ?_
      rintro e w1 ⟨rfl, hb1⟩
      have hA1 := (hA.drewN 1).keep hb1
      have hB1 := (hB.drewN 1).keep hb1
      have hbb := (below_dN hb 1).trans (hb1.mono (Nat.le_of_lt hA.lt))
      clear hA hB
      go_wp2_with fail
      go_roundw
      case rel => exact ⟨k + 1, by omega, by go_num, hA1, hB1, hbb⟩
      case measure => simp [intOf]; omega
    · go_wp2
      go_ret
      exact ⟨rfl, hb⟩

theorem MAt.rangeN {w : World} {b o : Nat} {m : Mch} (h : MAt w b o m) (hw : m.Wf) : w.rangeAt b (o + 2) (u8s m.N) := fun j v hv => by
  have hj : j < m.N.length := by have := (List.getElem?_eq_some_iff.1 hv).1; simpa [u8s] using this
  rw [Nat.add_assoc]
  refine h (2 + j) v ?_
  simp only [Mch.cells]
  rw [show 2 + j = j + 1 + 1 by omega, List.getElem?_cons_succ, List.getElem?_cons_succ, List.getElem?_map, List.getElem?_append_left hj, ← List.getElem?_map]
  exact hv
theorem MAt.rangeO {w : World} {b o : Nat} {m : Mch} (h : MAt w b o m) (hw : m.Wf) : w.rangeAt b (o + 50) (u8s m.O) := fun j v hv => by
  have hj : j < m.O.length := by have := (List.getElem?_eq_some_iff.1 hv).1; simpa [u8s] using this
  have e := hw.nl
  rw [Nat.add_assoc]
  refine h (50 + j) v ?_
  simp only [Mch.cells]
  rw [show 50 + j = (48 + j) + 1 + 1 by omega, List.getElem?_cons_succ, List.getElem?_cons_succ, List.getElem?_map, List.getElem?_append_right (by omega), show 48 + j - m.N.length = j by omega, ← List.getElem?_map]
  exact hv

set_option maxRecDepth 100000 in
set_option maxHeartbeats 1000000 in
theorem eqMachine_same (m : Mch) (hw : m.Wf) (w : World) :
    Calls Try.prog 70 #[.agg m.cells.toArray, .agg m.cells.toArray] w (Ret (.bool true) w) := by
  have hA : MAt ((w.alloc (.cells m.cells.toArray 44)).alloc (.cells m.cells.toArray 44)) w.heap.size 0 m := (MAt.boxed w m 44).alloc (by simp) _
  have hB : MAt ((w.alloc (.cells m.cells.toArray 44)).alloc (.cells m.cells.toArray 44)) (w.heap.size + 1) 0 m := by
    have := MAt.boxed (w.alloc (.cells m.cells.toArray 44)) m 44
    rwa [show (w.alloc (.cells m.cells.toArray 44)).heap.size = w.heap.size + 1 by simp] at this
  have hb0 := ((Below.refl w.heap.size w).alloc (Nat.le_refl _) (.cells m.cells.toArray 44)).alloc (by simp) (.cells m.cells.toArray 44)
  have hN : Hid ((Try.prog.info? 36).map (·.size) = some (u8s m.N).length) := by show _ = _; rw [show (u8s m.N).length = 48 by simp [u8s, hw.nl]]; kernel_rfl
  have hO : Hid ((Try.prog.info? 36).map (·.size) = some (u8s m.O).length) := by show _ = _; rw [show (u8s m.O).length = 48 by simp [u8s, hw.ol]]; kernel_rfl
  have HW := Lib.hid hw
  go_enter Try.func70, Try.ntmps70
  have l1 := hA.l
  have l2 := hB.l
  have s1 := hA.s
  have s2 := hB.s
  have r1 := hA.rangeN hw
  have r2 := hB.rangeN hw
  go_wp2_with (first | ((with_reducible refine ld_row ?_ 36 (.tmp 15) ?_ w.heap.size 2 ?_ (u8s m.N) (.array 16 35) r1 Try.underlying36 ?_ hN.out ?_); exact rfl; exact rfl; exact rfl; exact rfl) | ((with_reducible refine ld_row ?_ 36 (.tmp 17) ?_ (w.heap.size + 1) 2 ?_ (u8s m.N) (.array 16 35) r2 Try.underlying36 ?_ hN.out ?_); exact rfl; exact rfl; exact rfl; exact rfl))
  refine (eqByteA3A16_same m.N HW.out.nl _).mono ?_
  rintro e w1 ⟨rfl, hb1⟩
  have hA1 := hA.below hb1 (by simp; omega)
  have hB1 := hB.below hb1 (by simp)
  have hbb := hb0.trans (hb1.mono hb0.size)
  have r3 := hA1.rangeO HW.out
  have r4 := hB1.rangeO HW.out
  clear l1 l2 s1 s2 r1 r2 hA hB
  go_wp2_with (first | ((with_reducible refine ld_row ?_ 36 (.tmp 21) ?_ w.heap.size 50 ?_ (u8s m.O) (.array 16 35) r3 Try.underlying36 ?_ hO.out ?_); exact rfl; exact rfl; exact rfl; exact rfl) | ((with_reducible refine ld_row ?_ 36 (.tmp 23) ?_ (w.heap.size + 1) 50 ?_ (u8s m.O) (.array 16 35) r4 Try.underlying36 ?_ hO.out ?_); exact rfl; exact rfl; exact rfl; exact rfl))
  refine (eqByteA3A16_same m.O HW.out.ol _).mono ?_
  rintro e w2 ⟨rfl, hb2⟩
  have hbb2 := hbb.trans (hb2.mono hbb.size)
  go_wp2_with fail
  go_ret
  exact ⟨rfl, hbb2⟩

/-- a number that stands for a state; a list of them -/
def numB (m : Mch) (k : Int) : Bool := !(k == 0) && inR k (-m.S) m.S
def gwB (m : Mch) (xs : List Int) : Bool := decide (xs.length ≤ 40) && xs.all (numB m)
theorem all_from {p : Int → Bool} {xs : List Int} {k : Nat} (hk : k < xs.length) (h : p (xs[k]?.getD 0) = false) : xs.all p = false := by
  rw [List.all_eq_false]
  rw [List.getElem?_eq_getElem hk, Option.getD_some] at h
  exact ⟨xs[k], List.getElem_mem hk, by simp [h]⟩
theorem all_upto {p : Int → Bool} {xs : List Int} (h : ∀ j, j < xs.length → p (xs[j]?.getD 0) = true) : xs.all p = true := by
  rw [List.all_eq_true]
  intro x hx
  obtain ⟨j, hj, rfl⟩ := List.mem_iff_getElem.1 hx
  have := h j hj
  rwa [List.getElem?_eq_getElem hj, Option.getD_some] at this

set_option maxRecDepth 100000 in
set_option maxHeartbeats 1000000 in
theorem l02Numbers_any (m : Mch) (hwf : m.Wf) (hok : m.Ok) (a : Option Addr) (xs : List Int) (c : Nat) (hx : xs.length ≤ 1100000) (w : World) (hI : IntsAt w a xs) :
    Calls Try.prog 102 #[.agg m.cells.toArray, .slice a xs.length c] w (Ret (.bool (xs.all (numB m))) w) := by
  have hm := MAt.boxed w m 44
  have hb0 := boxedBelow w m.cells.toArray 44
  have HI := Lib.hid hI
  have h1 := hok.s1
  have h2 := hok.s16
  clear hI
  go_enter Try.func102, Try.ntmps102
  go_wp2
  go_loopw [5] (fun i wr => ∃ k : Nat, k ≤ xs.length ∧ i = .int .i64 k ∧ MAt wr w.heap.size 0 m ∧ Below w.heap.size w wr ∧ Hid (∀ j, j < k → numB m (xs[j]?.getD 0) = true)) (fun i _ => xs.length - (intOf i).toNat)
  case atStart => exact ⟨0, by omega, rfl, hm, hb0, fun j hj => by omega⟩
  case round =>
    clear hm hb0
    obtain ⟨k, hk, rfl, hm, hb, HA⟩ := hrel
    by_cases hlt : k < xs.length
    · obtain ⟨g, off, rfl, hc⟩ := HI.out k hlt
      rw [← hb.cell (p := ⟨g, off + k, none⟩) (World.block_lt_of_cell? w _ hc)] at hc
      have hs := hm.s
      have i1 : (0 : Int) ≤ (k : Int) := by omega
      have i2 : (k : Int) < (xs.length : Int) := by omega
      obtain ⟨x, hx'⟩ : ∃ x, x = xs[k]?.getD 0 := ⟨_, rfl⟩
      rw [← hx'] at hc
      have HXX := Lib.hid hx'
      clear hx'
      by_cases hz : x = 0
      · have HF : Hid (xs.all (numB m) = false) := all_from hlt (by rw [← HXX.out, hz]; rfl)
        have hz' : (x == 0) = true := by simpa using hz
        clear hz
        go_wp2
        go_quiet (fail)
        go_wp2
        go_ret
        exact ⟨ret_bool HF.out.symm, below_dN hb _⟩
      · have hz' : (x == 0) = false := by simpa using hz
        clear hz
        cases hr : inR x (-m.S) m.S
        · have HF : Hid (xs.all (numB m) = false) := all_from hlt (by rw [← HXX.out]; simp [numB, hr])
          go_wp2
          go_quiet ((go_at_call 53; exact Calls.quiet_of_same ((l01In_any _ _ _ _).mono fun _ _ h => ⟨h.1, h.2.symm⟩)))
          go_wp2
          go_ret
          exact ⟨ret_bool HF.out.symm, below_dN hb _⟩
        · have HN : Hid (∀ j, j < k + 1 → numB m (xs[j]?.getD 0) = true) := fun j hj => by
            by_cases e : j = k
            · subst e; rw [← HXX.out]; simp only [numB, hz', hr]; rfl
            · exact HA.out j (by omega)
          have hmd := hm.drewN 1
          have hbd := below_dN hb 1
          go_wp2
          go_quiet ((go_at_call 53; exact Calls.quiet_of_same ((l01In_any _ _ _ _).mono fun _ _ h => ⟨h.1, h.2.symm⟩)))
          go_wp2
          go_roundw
          case rel => exact ⟨k + 1, by omega, by go_num, hm.drewN _, below_dN hb _, HN⟩
          case measure => simp [intOf]; omega
    · have HF : Hid (xs.all (numB m) = true) := all_upto fun j hj => HA.out j (by omega)
      go_wp2
      go_ret
      exact ⟨ret_bool HF.out.symm, hb⟩

set_option maxRecDepth 100000 in
set_option maxHeartbeats 1000000 in
theorem l02Is_any (m : Mch) (hwf : m.Wf) (hok : m.Ok) (a : Option Addr) (xs : List Int) (c : Nat) (hx : xs.length ≤ 1100000) (w : World) (hI : IntsAt w a xs) :
    Calls Try.prog 67 #[.agg m.cells.toArray, .slice a xs.length c] w (Ret (.bool (gwB m xs)) w) := by
  have hm := MAt.boxed w m 44
  have hb0 := boxedBelow w m.cells.toArray 44
  have HI := Lib.hid (hI.keep hb0)
  have HO := Lib.hid hok
  clear hI hok
  go_enter Try.func67, Try.ntmps67
  by_cases h : xs.length ≤ 40
  · have HF : Hid (gwB m xs = xs.all (numB m)) := by show _ = _; simp [gwB, h]
    have h' : ¬ (40 : Int) < xs.length := by omega
    go_wp2_with ((with_reducible refine ld_mach ?_ (.tmp 2) ?_ (w.heap.size) (0) ?_ m hm hwf ?_); exact rfl; exact rfl; exact rfl)
    refine (l02Numbers_any m hwf HO.out a xs c hx _ HI.out).mono ?_
    rintro e w1 ⟨rfl, hb1⟩
    rw [← HF.out]
    have hbb := hb0.trans (hb1.mono hb0.size)
    go_wp2_with fail
    go_ret
    exact ⟨rfl, hbb⟩
  · have HF : Hid (gwB m xs = false) := by show _ = _; simp [gwB, h]
    have h' : (40 : Int) < xs.length := by omega
    go_wp2_with fail
    go_ret
    exact ⟨ret_bool HF.out.symm, hb0⟩

theorem enters_isGW : Enters 104 := fun args w => by kernel_rfl
set_option maxHeartbeats 1000000 in
theorem isGW1_any (m : Mch) (hwf : m.Wf) (hok : m.Ok) (b o : Nat) (x : Int) (w : World) (hm : MAt w b o m) :
    Calls Try.prog 104 #[.int .i64 x, .pointer (some ⟨b, o, none⟩)] w fun e w' => e = .returned (.bool (!numB m x)) ∧ w = w' := by
  have hs := hm.s
  have h1 := hok.s1
  have h2 := hok.s16
  go_enter Try.func104, Try.ntmps104
  by_cases hz : x = 0
  · have HF : Hid ((!numB m x) = true) := by show _ = _; rw [hz]; rfl
    have hz' : (x == 0) = true := by simpa using hz
    clear hz
    go_wp2_with fail
    go_ret
    exact ⟨ret_bool HF.out.symm, rfl⟩
  · have hz' : (x == 0) = false := by simpa using hz
    have HF : Hid ((!numB m x) = !inR x (-m.S) m.S) := by show _ = _; simp only [numB, hz']; simp
    clear hz
    go_wp2_with (go_at_call 56; refine (within_any _ _ _ _).mono ?_; rintro e w' ⟨rfl, rfl⟩)
    go_ret
    exact ⟨ret_bool HF.out.symm, rfl⟩
end Go.Proofs.Ytmacnofkpdikiaa
