/- IsGroupWord; desks: sizes, copies, comparisons; IsDesk of both sides. -/
import Derived.Test.YtmacnofkpdikiaaS2
namespace Go.Proofs.Ytmacnofkpdikiaa
open Go.RowKit
set_option linter.unusedVariables false
set_option linter.unusedSimpArgs false

/-- a group word of a machine -/
def gwP (m : Mch) (xs : List Int) : Bool := machP m && gwB m xs

set_option maxRecDepth 100000 in
set_option maxHeartbeats 1000000 in
theorem IsGroupWord_any (m : Mch) (hwf : m.Wf) (a : Option Addr) (xs : List Int) (c : Nat) (hx : xs.length ≤ 1100000) (w : World) (hI : IntsAt w a xs) :
    Calls Try.prog 69 #[.agg m.cells.toArray, .slice a xs.length c] w (Ret (.bool (gwP m xs)) w) := by
  have hm := MAt.boxed w m 44
  have hb0 := boxedBelow w m.cells.toArray 44
  have hmf : ∀ (fn : Fn) (first cap : Array Value) (w : World), (Instr.makeFunc fn first cap).run Try.prog w = .ok (.func fn first cap) w := fun _ _ _ _ => rfl
  have HI := Lib.hid hI
  clear hI
  go_enter Try.func69, Try.ntmps69
  go_wp2_with ((with_reducible refine ld_mach ?_ (.tmp 2) ?_ (w.heap.size) (0) ?_ m hm hwf ?_); exact rfl; exact rfl; exact rfl)
  refine (IsMachine_any m hwf _).mono ?_
  rintro e w1 ⟨rfl, hb1⟩
  have hm1 := hm.keep hb1 hwf
  have hbb := hb0.trans (hb1.mono hb0.size)
  by_cases c1 : machP m = true
  · have hok := mach_ok c1
    rw [c1]
    by_cases h : xs.length ≤ 40
    · have HF : Hid (gwP m xs = !xs.any (fun x => !numB m x)) := by
        show _ = _
        simp only [gwP, gwB, c1, h, decide_true, Bool.true_and]
        rw [List.all_eq_not_any_not]
      have h' : (xs.length : Int) ≤ 40 := by omega
      go_wp2_with fail
      refine (containsFuncI_any _ enters_isGW #[.pointer (some ⟨w.heap.size, 0, none⟩)] a xs c (by omega) (fun x => !numB m x) w1 (fun w' => w' = w1) rfl (fun w' h => by rw [h]; exact HI.out.below hbb) (fun w' h i hi => by rw [h]; exact (isGW1_any m hwf hok w.heap.size 0 _ w1 hm1).mono fun e w'' ⟨he, hw⟩ => ⟨he, hw.symm⟩)).mono ?_
      rintro e w2 ⟨rfl, rfl⟩
      cases hb : xs.any (fun x => !numB m x)
      · rw [hb] at HF
        clear hb hmf
        go_wp2_with fail
        go_ret
        exact ⟨ret_bool HF.out.symm, hbb⟩
      · rw [hb] at HF
        clear hb hmf
        go_wp2_with fail
        go_ret
        exact ⟨ret_bool HF.out.symm, hbb⟩
    · have HF : Hid (gwP m xs = false) := by show _ = _; simp [gwP, gwB, h]
      have h' : ¬ (xs.length : Int) ≤ 40 := by omega
      go_wp2_with fail
      go_ret
      exact ⟨ret_bool HF.out.symm, hbb⟩
  · have HF : Hid (gwP m xs = false) := by show _ = _; simp [gwP, c1]
    have c1' : machP m = false := by simpa using c1
    clear c1
    rw [c1']
    go_wp2_with fail
    go_ret
    exact ⟨ret_bool HF.out.symm, hbb⟩

/-! Desks -/
def dcells (m : Mch) (u v : Value) : List Value := m.cells ++ [u, v]
theorem dcells_length {m : Mch} (h : m.Wf) (u v : Value) : (dcells m u v).length = 100 := by simp [dcells, Mch.cells_length h]
/-- a desk lies at block b from 0 on -/
def DAt (w : World) (b : Nat) (m : Mch) (u v : Value) : Prop := w.rangeAt b 0 (dcells m u v)
theorem DAt.mach {w : World} {b : Nat} {m : Mch} {u v : Value} (h : DAt w b m u v) : MAt w b 0 m := fun j x hj => h j x (by
  have : j < m.cells.length := (List.getElem?_eq_some_iff.1 hj).1
  rw [dcells, List.getElem?_append_left this]; exact hj)
theorem DAt.fst {w : World} {b : Nat} {m : Mch} {u v : Value} (h : DAt w b m u v) (hw : m.Wf) : w.cell? ⟨b, 98, none⟩ = some u := by
  have := h 98 u (by rw [dcells, List.getElem?_append_right (by rw [Mch.cells_length hw]; omega), Mch.cells_length hw]; rfl)
  simpa using this
theorem DAt.snd {w : World} {b : Nat} {m : Mch} {u v : Value} (h : DAt w b m u v) (hw : m.Wf) : w.cell? ⟨b, 99, none⟩ = some v := by
  have := h 99 v (by rw [dcells, List.getElem?_append_right (by rw [Mch.cells_length hw]; omega), Mch.cells_length hw]; rfl)
  simpa using this
theorem DAt.boxed (w : World) (m : Mch) (u v : Value) (T : Nat) : DAt (w.alloc (.cells (dcells m u v).toArray T)) w.heap.size m u v := fun j x hj => by
  rw [World.cell?_alloc_at _ _ _ _ rfl]; simpa using hj
theorem DAt.below {w w' : World} {b : Nat} {m : Mch} {u v : Value} (h : DAt w b m u v) {B : Nat} (hb : Below B w w') (hlt : b < B) : DAt w' b m u v :=
  fun j x hj => (hb.cell (p := ⟨b, 0 + j, none⟩) hlt).trans (h j x hj)
theorem DAt.drewN {w : World} {b : Nat} {m : Mch} {u v : Value} (h : DAt w b m u v) (n : Nat) : DAt (w.drewN n) b m u v := h

/-- a slice value of numbers that reads as xs -/
def SlI (w : World) (v : Value) (xs : List Int) : Prop := ∃ a c, v = .slice a xs.length c ∧ IntsAt w a xs
theorem SlI.below {w w' : World} {v : Value} {xs : List Int} (h : SlI w v xs) (hb : Below w.heap.size w w') : SlI w' v xs := by
  obtain ⟨a, c, rfl, hI⟩ := h
  exact ⟨a, c, rfl, hI.keep hb⟩

set_option maxRecDepth 100000 in
set_option maxHeartbeats 1000000 in
theorem specIsDesk_any (m : Mch) (hwf : m.Wf) (u v : Value) (xs ys : List Int) (hx : xs.length ≤ 1100000) (hy : ys.length ≤ 1100000) (w : World) (hu : SlI w u xs) (hv : SlI w v ys) :
    Calls Try.prog 27 #[.agg (dcells m u v).toArray] w (Ret (.bool (gwP m xs && gwP m ys)) w) := by
  obtain ⟨a, c, rfl, hI⟩ := hu
  obtain ⟨b, d, rfl, hJ⟩ := hv
  have hD := DAt.boxed w m (.slice a xs.length c) (.slice b ys.length d) 46
  have hb0 := boxedBelow w (dcells m (.slice a xs.length c) (.slice b ys.length d)).toArray 46
  have HI := Lib.hid (hI.keep hb0)
  have HJ := Lib.hid (hJ.keep hb0)
  clear hI hJ
  have hm := hD.mach
  have HW := Lib.hid hwf
  have HD := Lib.hid hD
  clear hD
  generalize dcells m (.slice a xs.length c) (.slice b ys.length d) = D at *
  go_enter Try.func27, Try.ntmps27
  go_wp2_with ((with_reducible refine ld_mach ?_ (.tmp 3) ?_ (w.heap.size) (0) ?_ m hm hwf ?_); exact rfl; exact rfl; exact rfl)
  refine (l01Is_any m hwf _).mono ?_
  rintro e w1 ⟨rfl, hb1⟩
  have hbb := hb0.trans (hb1.mono hb0.size)
  by_cases c1 : machP m = true
  · have hok := mach_ok c1
    have HF : Hid ((gwP m xs && gwP m ys) = (gwB m xs && gwB m ys)) := by show _ = _; simp [gwP, c1]
    rw [c1]
    have hD1 := HD.out.below hb1 (by simp)
    have hm1 := hD1.mach
    have e1 := hD1.fst HW.out
    clear hD1
    go_wp2_with ((with_reducible refine ld_mach ?_ (.tmp 7) ?_ (w.heap.size) (0) ?_ m hm1 hwf ?_); exact rfl; exact rfl; exact rfl)
    refine (l02Is_any m hwf hok a xs c hx _ (HI.out.keep hb1)).mono ?_
    rintro e w2 ⟨rfl, hb2⟩
    have hbb2 := hbb.trans (hb2.mono hbb.size)
    cases h1 : gwB m xs
    · have H1 := Lib.hid h1
      clear h1
      go_wp2_with fail
      go_ret
      exact ⟨ret_bool (by rw [HF.out, H1.out]; rfl), hbb2⟩
    · have H1 := Lib.hid h1
      have hD2 := (HD.out.below hb1 (by simp)).below hb2 (World.block_lt_of_cell? w1 ⟨w.heap.size, 0, none⟩ hm1.l)
      have hm2 := hD2.mach
      have e2 := hD2.snd HW.out
      clear hD2 h1 e1 hm1 hm
      go_wp2_with ((with_reducible refine ld_mach ?_ (.tmp 14) ?_ (w.heap.size) (0) ?_ m hm2 hwf ?_); exact rfl; exact rfl; exact rfl)
      refine (l02Is_any m hwf hok b ys d hy _ ((HJ.out.keep hb1).keep hb2)).mono ?_
      rintro e w3 ⟨rfl, hb3⟩
      have hbb3 := hbb2.trans (hb3.mono hbb2.size)
      go_wp2_with fail
      go_ret
      exact ⟨ret_bool (by rw [HF.out, H1.out]; rfl), hbb3⟩
  · have HF : Hid ((gwP m xs && gwP m ys) = false) := by show _ = _; simp [gwP, c1]
    have c1' : machP m = false := by simpa using c1
    clear c1
    rw [c1']
    go_wp2_with fail
    go_ret
    exact ⟨ret_bool HF.out.symm, hbb⟩

set_option maxRecDepth 100000 in
set_option maxHeartbeats 1000000 in
theorem implIsDesk_any (m : Mch) (hwf : m.Wf) (u v : Value) (xs ys : List Int) (hx : xs.length ≤ 1100000) (hy : ys.length ≤ 1100000) (w : World) (hu : SlI w u xs) (hv : SlI w v ys) :
    Calls Try.prog 29 #[.agg (dcells m u v).toArray] w (Ret (.bool (gwP m xs && gwP m ys)) w) := by
  obtain ⟨a, c, rfl, hI⟩ := hu
  obtain ⟨b, d, rfl, hJ⟩ := hv
  have hD := DAt.boxed w m (.slice a xs.length c) (.slice b ys.length d) 46
  have hb0 := boxedBelow w (dcells m (.slice a xs.length c) (.slice b ys.length d)).toArray 46
  have HI := Lib.hid (hI.keep hb0)
  have HJ := Lib.hid (hJ.keep hb0)
  clear hI hJ
  have hm := hD.mach
  have e1 := hD.fst hwf
  have HW := Lib.hid hwf
  have HD := Lib.hid hD
  clear hD
  generalize dcells m (.slice a xs.length c) (.slice b ys.length d) = D at *
  go_enter Try.func29, Try.ntmps29
  go_wp2_with ((with_reducible refine ld_mach ?_ (.tmp 3) ?_ (w.heap.size) (0) ?_ m hm hwf ?_); exact rfl; exact rfl; exact rfl)
  refine (IsGroupWord_any m hwf a xs c hx _ HI.out).mono ?_
  rintro e w1 ⟨rfl, hb1⟩
  have hbb := hb0.trans (hb1.mono hb0.size)
  cases h1 : gwP m xs
  · have H1 := Lib.hid h1
    clear h1
    go_wp2_with fail
    go_ret
    exact ⟨ret_bool (by rw [H1.out]; rfl), hbb⟩
  · have H1 := Lib.hid h1
    have hD2 := HD.out.below hb1 (by simp)
    have hm2 := hD2.mach
    have e2 := hD2.snd HW.out
    clear hD2 h1 e1 hm
    go_wp2_with ((with_reducible refine ld_mach ?_ (.tmp 9) ?_ (w.heap.size) (0) ?_ m hm2 hwf ?_); exact rfl; exact rfl; exact rfl)
    refine (IsGroupWord_any m hwf b ys d hy _ (HJ.out.keep hb1)).mono ?_
    rintro e w3 ⟨rfl, hb3⟩
    have hbb3 := hbb.trans (hb3.mono hbb.size)
    go_wp2_with fail
    go_ret
    exact ⟨ret_bool (by rw [H1.out]; rfl), hbb3⟩

set_option maxRecDepth 100000 in
set_option maxHeartbeats 1000000 in
theorem szDesk_any (m : Mch) (hwf : m.Wf) (a b : Option Addr) (n n' c d : Nat) (hn : n ≤ 9223372036854775807) (hn' : n' ≤ 9223372036854775807) (w : World) :
    Calls Try.prog 26 #[.agg (dcells m (.slice a n c) (.slice b n' d)).toArray, .int .i64 1048576] w fun e w' => ∃ r : Int, e = .returned (.int .i64 r) ∧ (r = -1 ∨ (0 ≤ r ∧ n ≤ 1048576 ∧ n' ≤ 1048576)) ∧ Below w.heap.size w w' := by
  have hD := DAt.boxed w m (.slice a n c) (.slice b n' d) 41
  have hb0 := boxedBelow w (dcells m (.slice a n c) (.slice b n' d)).toArray 41
  have e1 := hD.fst hwf
  have e2 := hD.snd hwf
  clear hD
  generalize dcells m (.slice a n c) (.slice b n' d) = D at *
  go_enter Try.func26, Try.ntmps26
  go_wp2_with fail
  refine (szInt64S_any a n c 1048576 (by omega) (by omega) hn _).mono ?_
  rintro e w' ⟨rfl, rfl⟩
  by_cases h1 : (1048576 : Int) < n
  · rw [if_pos h1]
    go_wp2_with fail
    go_ret
    exact ⟨-1, rfl, .inl rfl, hb0⟩
  · rw [if_neg h1]
    obtain ⟨r, hr⟩ : ∃ r : Int, r = 1048576 - (n : Int) := ⟨_, rfl⟩
    rw [← hr]
    have i1 : 0 ≤ r := by omega
    have i2 : r ≤ 1048576 := by omega
    have HR := Lib.hid hr
    clear hr
    go_wp2_with fail
    refine (szInt64S_any b n' d r i1 i2 hn' _).mono ?_
    rintro e w' ⟨rfl, rfl⟩
    by_cases h2 : r < n'
    · rw [if_pos h2]
      go_wp2_with fail
      go_ret
      exact ⟨-1, rfl, .inl rfl, hb0⟩
    · rw [if_neg h2]
      obtain ⟨t, ht⟩ : ∃ t : Int, t = r - (n' : Int) := ⟨_, rfl⟩
      rw [← ht]
      have i3 : 0 ≤ t := by omega
      have i4 : n ≤ 1048576 := by omega
      have i5 : n' ≤ 1048576 := by omega
      have HT := Lib.hid ht
      clear ht
      have i6 : ¬ t < 0 := by omega
      go_wp2_with fail
      go_ret
      exact ⟨t, rfl, .inr ⟨i3, i4, i5⟩, hb0⟩
end Go.Proofs.Ytmacnofkpdikiaa
