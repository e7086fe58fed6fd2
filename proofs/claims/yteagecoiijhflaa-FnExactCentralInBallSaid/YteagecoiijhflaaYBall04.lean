import Derived.Test.YteagecoiijhflaaYBall02
import Derived.Test.YteagecoiijhflaaYBall03
import Derived.StillTailTactics
import Derived.IntWalk
import Derived.Test.YteagecoiijhflaaYBall01
import Derived.Deep.RegionWith
/- The inverse machine: reference and program. -/
namespace Go.Proofs.Yteagecoiijhflaa
open Go.RowKit
set_option linter.unusedVariables false
set_option linter.unusedSimpArgs false

/-- the inverse machine as far as it is made: states below q, and of q the entries of the letters below x -/
def ivB (m : Mch) (q x i : Nat) : Bool := decide (i / 3 < m.s) && decide (i % 3 < m.l) && (decide (i / 3 < q) || decide (i / 3 = q) && decide (invX m (i / 3) (i % 3) < x))
def ivN (m : Mch) (q x i : Nat) : Int := if ivB m q x i = true then m.n (i / 3) (invX m (i / 3) (i % 3)) else 0
def ivO (m : Mch) (q x i : Nat) : Int := if ivB m q x i = true then (invX m (i / 3) (i % 3) : Int) else 0
def ivM (m : Mch) (q x : Nat) : Mch := ⟨m.L, m.S, (List.range 48).map (ivN m q x), (List.range 48).map (ivO m q x)⟩
/-- .. the output alone of the last letter -/
def ivH (m : Mch) (q x : Nat) : Mch := ⟨m.L, m.S, (List.range 48).map (ivN m q x), (List.range 48).map (ivO m q (x + 1))⟩
theorem map48_congr {f g : Nat → Int} (h : ∀ i, i < 48 → f i = g i) : (List.range 48).map f = (List.range 48).map g := List.map_congr_left fun i hi => h i (by simpa using hi)
theorem map48_set (f : Nat → Int) {j : Nat} (hj : j < 48) (v : Int) : ((List.range 48).map f).set j v = (List.range 48).map fun i => if i = j then v else f i := by
  apply List.ext_getElem
  · simp
  · intro i h1 h2
    rw [List.getElem_set]
    simp only [List.getElem_map, List.getElem_range]
    by_cases e : j = i
    · subst e; simp
    · rw [if_neg e, if_neg (fun h => e h.symm)]
theorem cells_setN (L S : Int) (N O : List Int) (i : Nat) (hi : i < N.length) (v : Int) : (Mch.cells ⟨L, S, N, O⟩).set (2 + i) (.int .u8 v) = Mch.cells ⟨L, S, N.set i v, O⟩ := by
  simp only [Mch.cells]
  rw [show 2 + i = i + 1 + 1 by omega, List.set_cons_succ, List.set_cons_succ, ← List.map_set, List.set_append_left _ _ hi]
theorem cells_setO (L S : Int) (N O : List Int) (i : Nat) (hn : N.length = 48) (v : Int) : (Mch.cells ⟨L, S, N, O⟩).set (50 + i) (.int .u8 v) = Mch.cells ⟨L, S, N, O.set i v⟩ := by
  simp only [Mch.cells]
  rw [show 50 + i = (48 + i) + 1 + 1 by omega, List.set_cons_succ, List.set_cons_succ, ← List.map_set, List.set_append_right _ _ (by omega), hn, show 48 + i - 48 = i by omega]
theorem ivB_step {m : Mch} (hok : m.Ok) (hwf : m.Wf) {q x i : Nat} (hq : q < m.s) (hx : x < m.l) (hi : i < 48) : ivB m q (x + 1) i = (decide (i = q * 3 + m.on q x) || ivB m q x i) := by
  have hy := hok.on_lt hwf hq hx
  have h3 := hok.l_le
  rw [Bool.eq_iff_iff]
  simp only [ivB, Bool.and_eq_true, Bool.or_eq_true, decide_eq_true_eq]
  by_cases e : i = q * 3 + m.on q x
  · have e1 : i / 3 = q := by omega
    have e2 : i % 3 = m.on q x := by omega
    rw [e1, e2, invX_of hok hwf hq hx]
    constructor
    · intro _; exact .inl e
    · intro _; exact ⟨⟨hq, hy⟩, .inr ⟨rfl, by omega⟩⟩
  · constructor
    · rintro ⟨⟨h1, h2⟩, h | ⟨h4, h5⟩⟩
      · exact .inr ⟨⟨h1, h2⟩, .inl h⟩
      · refine .inr ⟨⟨h1, h2⟩, .inr ⟨h4, ?_⟩⟩
        rcases Nat.lt_or_ge (invX m (i / 3) (i % 3)) x with c | c
        · exact c
        · exfalso
          have e' : invX m (i / 3) (i % 3) = x := by omega
          have := (invX_spec hok hwf h1 h2).2
          rw [e', h4] at this
          omega
    · rintro (h | ⟨⟨h1, h2⟩, h | ⟨h4, h5⟩⟩)
      · exact absurd h e
      · exact ⟨⟨h1, h2⟩, .inl h⟩
      · exact ⟨⟨h1, h2⟩, .inr ⟨h4, by omega⟩⟩
theorem ivO_step {m : Mch} (hok : m.Ok) (hwf : m.Wf) {q x : Nat} (hq : q < m.s) (hx : x < m.l) : (ivM m q x).cells.set (50 + q * 3 + m.on q x) (.int .u8 (x : Int)) = (ivH m q x).cells := by
  rw [Nat.add_assoc]
  have hy := hok.on_lt hwf hq hx
  have h3 := hok.l_le
  have h16 := hok.s_le
  rw [ivM, cells_setO _ _ _ _ _ (by simp), map48_set _ (by omega), ivH]
  congr 2
  refine map48_congr fun i hi => ?_
  simp only [ivO, ivB_step hok hwf hq hx hi]
  by_cases e : i = q * 3 + m.on q x
  · have e1 : i / 3 = q := by omega
    have e2 : i % 3 = m.on q x := by omega
    simp [e, e1, e2, invX_of hok hwf hq hx]
    rw [show (q * 3 + m.on q x) / 3 = q by omega, show m.on q x % 3 = m.on q x by omega, invX_of hok hwf hq hx]
  · simp [e]
theorem ivN_step {m : Mch} (hok : m.Ok) (hwf : m.Wf) {q x : Nat} (hq : q < m.s) (hx : x < m.l) : (ivH m q x).cells.set (2 + q * 3 + m.on q x) (.int .u8 (m.nn q x : Int)) = (ivM m q (x + 1)).cells := by
  rw [Nat.add_assoc]
  have hy := hok.on_lt hwf hq hx
  have h3 := hok.l_le
  have h16 := hok.s_le
  rw [ivH, cells_setN _ _ _ _ _ (by simp; omega), map48_set _ (by omega), ivM]
  congr 2
  refine map48_congr fun i hi => ?_
  simp only [ivN, ivB_step hok hwf hq hx hi]
  by_cases e : i = q * 3 + m.on q x
  · simp [e]
    rw [show (q * 3 + m.on q x) / 3 = q by omega, show m.on q x % 3 = m.on q x by omega, invX_of hok hwf hq hx, hok.n_eq hwf hq hx]
  · simp [e]
theorem ivM_row {m : Mch} (hok : m.Ok) (hwf : m.Wf) {q : Nat} (hq : q < m.s) : ivM m q m.l = ivM m (q + 1) 0 := by
  have : ∀ i, ivB m q m.l i = ivB m (q + 1) 0 i := fun i => by
    rw [Bool.eq_iff_iff]
    simp only [ivB, Bool.and_eq_true, Bool.or_eq_true, decide_eq_true_eq]
    constructor
    · rintro ⟨⟨h1, h2⟩, h | ⟨h4, h5⟩⟩
      · exact ⟨⟨h1, h2⟩, .inl (by omega)⟩
      · exact ⟨⟨h1, h2⟩, .inl (by omega)⟩
    · rintro ⟨⟨h1, h2⟩, h | ⟨h4, h5⟩⟩
      · by_cases e : i / 3 = q
        · exact ⟨⟨h1, h2⟩, .inr ⟨e, (invX_spec hok hwf h1 h2).1⟩⟩
        · exact ⟨⟨h1, h2⟩, .inl (by omega)⟩
      · omega
  simp only [ivM]
  congr 1 <;> exact map48_congr fun i _ => by simp only [ivN, ivO, this]
theorem ivM_all {m : Mch} : ivM m m.s 0 = invM m := by
  have hb : ∀ i, ivB m m.s 0 i = true ↔ i / 3 < m.s ∧ i % 3 < m.l := fun i => by
    simp only [ivB, Bool.and_eq_true, Bool.or_eq_true, decide_eq_true_eq]
    constructor
    · exact fun h => h.1
    · exact fun h => ⟨h, .inl h.1⟩
  simp only [ivM, invM]
  congr 1
  · exact map48_congr fun i _ => by simp only [ivN, hb]
  · exact map48_congr fun i _ => by simp only [ivO, hb]
theorem ivM_none (m : Mch) : ivM m 0 0 = ⟨m.L, m.S, List.replicate 48 0, List.replicate 48 0⟩ := by
  simp only [ivM]
  congr 1
  · rw [show List.replicate 48 (0 : Int) = (List.range 48).map fun _ => 0 from by decide]; exact map48_congr fun i _ => by simp [ivN, ivB]
  · rw [show List.replicate 48 (0 : Int) = (List.range 48).map fun _ => 0 from by decide]; exact map48_congr fun i _ => by simp [ivO, ivB]
theorem zero98 (a b : Value) : ((Try.zeroCells29.setIfInBounds 0 a).setIfInBounds 1 b).toList = a :: b :: ((List.replicate 48 (0 : Int)) ++ (List.replicate 48 (0 : Int))).map (Value.int .u8) := by
  kernel_rfl
theorem ivM_start (m : Mch) : ((Try.zeroCells29.setIfInBounds 0 (.int .i64 m.L)).setIfInBounds 1 (.int .i64 m.S)).toList = (ivM m 0 0).cells := by
  rw [zero98, ivM_none]; rfl
theorem ivM_wf {m : Mch} (hok : m.Ok) (hwf : m.Wf) (q x : Nat) : (ivM m q x).Wf := by
  have h3 := hok.l_le
  refine ⟨by simp [ivM], by simp [ivM], fun i => ?_, fun i => ?_, hwf.lb, hwf.sb⟩
  · by_cases hi : i < 48
    · simp only [ivM, List.getElem?_map, List.getElem?_range hi, Option.map_some, Option.getD_some, ivN]
      split
      · exact hwf.nb _
      · omega
    · simp [ivM, hi]
  · by_cases hi : i < 48
    · simp only [ivM, List.getElem?_map, List.getElem?_range hi, Option.map_some, Option.getD_some, ivO]
      split
      · rename_i h
        simp only [ivB, Bool.and_eq_true, decide_eq_true_eq] at h
        have := (invX_spec hok hwf h.1.1 h.1.2).1
        omega
      · omega
    · simp [ivM, hi]
theorem ivH_wf {m : Mch} (hok : m.Ok) (hwf : m.Wf) (q x : Nat) : (ivH m q x).Wf := by
  have h1 := ivM_wf hok hwf q x
  have h2 := ivM_wf hok hwf q (x + 1)
  exact ⟨h1.nl, h2.ol, h1.nb, h2.ob, hwf.lb, hwf.sb⟩
theorem mach_ones (m : Mch) : ∀ v ∈ m.cells, v.oneCell' = true := fun v hv => by
  simp only [Mch.cells, List.mem_cons, List.mem_map] at hv
  rcases hv with rfl | rfl | ⟨z, _, rfl⟩ <;> rfl
theorem mach_infoT {m : Mch} (hwf : m.Wf) : (Try.prog.info? 29).map (·.size) = some m.cells.length := by rw [Mch.cells_length hwf]; kernel_rfl

theorem zero_len : Try.zeroCells29.toList.length = 98 := by kernel_rfl
theorem ivM_startA (m : Mch) : ((Try.zeroCells29.setIfInBounds 0 (.int .i64 m.L)).setIfInBounds 1 (.int .i64 m.S)) = (ivM m 0 0).cells.toArray := by
  rw [← ivM_start]
set_option maxRecDepth 100000 in
set_option maxHeartbeats 4000000 in
theorem l01Inverse_any (m : Mch) (hwf : m.Wf) (hok : m.Ok) (w : World) :
    Calls Try.prog 88 #[.agg m.cells.toArray] w (Ret (.agg (invM m).cells.toArray) w) := by
  have h3 := hok.l_le
  have h16 := hok.s_le
  have hl : m.cells[0]? = some (.int .i64 m.L) := rfl
  have hs : m.cells[1]? = some (.int .i64 m.S) := rfl
  have hM0 := (((Mm.start w).alloc m.cells.toArray 29).alloc Try.zeroCells29 29).alloc Try.zeroCells29 29
  rw [show (w.alloc (.cells m.cells.toArray 29)).heap.size = w.heap.size + 1 by simp, show ((w.alloc (.cells m.cells.toArray 29)).alloc (.cells Try.zeroCells29 29)).heap.size = w.heap.size + 1 + 1 by simp] at hM0
  have hw0 := ivM_wf hok hwf 0 0
  have ht := (hM0.at 0 rfl).there 0 (ivM m 0 0).cells.length (by simp only; rw [zero_len, Mch.cells_length hw0]; omega)
  have hM1 := hM0.setAll 0 rfl (vs := (ivM m 0 0).cells) (by rw [zero_len, Mch.cells_length hw0])
  simp only [List.set_cons_zero] at hM1
  have HM1 := Lib.hid hM1
  have HI := Lib.hid (mach_infoT hw0)
  have H1 := Lib.hid (mach_ones (ivM m 0 0))
  have HS := Lib.hid (ivM_startA m)
  clear hM0 hM1 hw0
  go_enter Try.func88, Try.ntmps88
  go_wp2_with ((with_reducible refine st_row ?_ 29 (.tmp 3) (.tmp 11) ?_ (w.heap.size + 1 + 1) 0 (ivM m 0 0).cells ?_ ?_ ht HI.out H1.out ?_); exact rfl; exact rfl; exact rfl; (rw [← HS.out]; exact rfl))
  clear ht
  go_loopw [4] (fun i wr => ∃ q : Nat, q ≤ m.s ∧ i = .int .i64 q ∧ Mm w.heap.size w wr [(w.heap.size + 1 + 1, (ivM m q 0).cells, 29), (w.heap.size + 1, Try.zeroCells29.toList, 29), (w.heap.size, m.cells, 29)] []) (fun i _ => m.s - (intOf i).toNat)
  case atStart => exact ⟨0, Nat.zero_le _, rfl, HM1.out⟩
  case round =>
    clear HM1 HI H1 HS hl hs
    obtain ⟨q, hq, rfl, hM⟩ := hrel
    have cs := (hM.mach 2 rfl).s
    rw [hok.S_eq] at cs
    by_cases hlt : q < m.s
    · have i1 : (0 : Int) ≤ (q : Int) := by omega
      have i2 : (q : Int) < 16 := by omega
      have i3 : (q : Int) < (m.s : Int) := by omega
      go_wp2_with fail
      clear cs
      obtain ⟨wo, rfl⟩ : ∃ wo : World, wo = wr := ⟨_, rfl⟩
      go_loopw [5] (fun i wr => ∃ x : Nat, x ≤ m.l ∧ i = .int .i64 x ∧ Mm w.heap.size w wr [(w.heap.size + 1 + 1, (ivM m q x).cells, 29), (w.heap.size + 1, Try.zeroCells29.toList, 29), (w.heap.size, m.cells, 29)] []) (fun i _ => m.l - (intOf i).toNat)
      case atStart => exact ⟨0, Nat.zero_le _, rfl, hM⟩
      case round =>
        clear hM
        obtain ⟨x, hx, rfl, hM⟩ := hrel
        have cl := (hM.mach 2 rfl).l
        rw [hok.L_eq] at cl
        by_cases hxl : x < m.l
        · have hmm := hM.mach 2 rfl
          have co := hmm.oo hwf (q := q) (x := x) (by omega) (by omega)
          have cn := hmm.nn hwf (q := q) (x := x) (by omega) (by omega)
          rw [hok.o_eq hwf hlt hxl] at co
          rw [hok.n_eq hwf hlt hxl] at cn
          have hy := hok.on_lt hwf hlt hxl
          have hz := hok.nn_lt hwf hlt hxl
          have hw1 := ivM_wf hok hwf q x
          have hw2 := ivH_wf hok hwf q x
          have d1 := (hM.mach 0 rfl).oo hw1 (q := q) (x := m.on q x) (by omega) (by omega)
          have f1 := (hM.at 0 rfl).free (50 + q * 3 + m.on q x)
          have hM2 := hM.setCell 0 rfl (50 + q * 3 + m.on q x) (.int .u8 (x : Int))
          rw [ivO_step hok hwf hlt hxl] at hM2
          simp only [List.set_cons_zero] at hM2
          have HM2 := Lib.hid hM2.drew
          have HSTEP : Hid (∀ W, Mm w.heap.size w W [(w.heap.size + 1 + 1, (ivH m q x).cells, 29), (w.heap.size + 1, Try.zeroCells29.toList, 29), (w.heap.size, m.cells, 29)] [] → Mm w.heap.size w (W.setCell ⟨w.heap.size + 1 + 1, 2 + q * 3 + m.on q x, none⟩ (.int .u8 (m.nn q x : Int))) [(w.heap.size + 1 + 1, (ivM m q (x + 1)).cells, 29), (w.heap.size + 1, Try.zeroCells29.toList, 29), (w.heap.size, m.cells, 29)] []) := fun W h => by
            have := h.setCell 0 rfl (2 + q * 3 + m.on q x) (.int .u8 (m.nn q x : Int))
            rw [ivN_step hok hwf hlt hxl] at this
            simpa only [List.set_cons_zero] using this
          have j1 : (0 : Int) ≤ (x : Int) := by omega
          have j2 : (x : Int) < 3 := by omega
          have j3 : (0 : Int) ≤ (m.on q x : Int) := by omega
          have j4 : (m.on q x : Int) < 3 := by omega
          have j5 : (m.nn q x : Int) < 16 := by omega
          have j6 : (0 : Int) ≤ (m.nn q x : Int) := by omega
          obtain ⟨wa, hwa⟩ : ∃ wa, wa = wr.setCell ⟨w.heap.size + 1 + 1, 50 + q * 3 + m.on q x, none⟩ (.int .u8 (x : Int)) := ⟨_, rfl⟩
          rw [← hwa] at HM2
          have e1 := (HM2.out.mach 2 rfl).nn hwf (q := q) (x := x) (by omega) (by omega)
          rw [hok.n_eq hwf hlt hxl] at e1
          have e2 := (HM2.out.mach 0 rfl).nn hw2 (q := q) (x := m.on q x) (by omega) (by omega)
          have e3 := (HM2.out.at 0 rfl).free (2 + q * 3 + m.on q x)
          have HS2 := Lib.hid (HSTEP.out _ HM2.out)
          have HWA := Lib.hid hwa
          clear hM2 hmm hw1 hM hwa HM2 HSTEP hw2
          generalize m.on q x = Y at *
          generalize m.nn q x = Z at *
          go_wp2_with fail
          rw [← HWA.out]
          go_still_tail 11, (by kernel_rfl)
          change wpList _ _ _ _ _ wa.drew
          generalize wa.drew = wb at *
          clear HWA
          go_wp2_with fail
          go_roundw
          case rel => exact ⟨x + 1, by omega, by go_num, HS2.out⟩
          case measure => simp [intOf]; omega
        · have hx' : x = m.l := by omega
          subst hx'
          rw [ivM_row hok hwf hlt] at hM
          go_wp2_with fail
          go_roundw
          case rel => exact ⟨q + 1, by omega, by go_num, hM⟩
          case measure => simp [intOf]; omega
    · have hq' : q = m.s := by omega
      subst hq'
      rw [ivM_all] at hM
      have hw1 := invM_wf hok hwf
      have hm1 := hM.mach 0 rfl
      have ht := (hM.at 1 rfl).there 0 (invM m).cells.length (by simp only; rw [zero_len, Mch.cells_length hw1]; omega)
      have HI := Lib.hid (mach_infoT hw1)
      have H1 := Lib.hid (mach_ones (invM m))
      have hM2 := hM.setAll 1 rfl (vs := (invM m).cells) (by rw [zero_len, Mch.cells_length hw1])
      have HB := Lib.hid (hM2.at 1 rfl)
      have HM2 := Lib.hid hM2
      have HI5 : Hid ((Try.prog.info? 29).map (·.size) = some (invM m).cells.toArray.size) := HI.out.trans (by rw [List.size_toArray])
      clear hM2
      go_wp2_with (first | ((with_reducible refine st_row ?_ 29 (.tmp 2) (.tmp 48) ?_ (w.heap.size + 1) 0 (invM m).cells ?_ ?_ ht HI.out H1.out ?_); exact rfl; exact rfl; exact rfl; exact rfl) | ((with_reducible refine ld_mach ?_ (.tmp 3) ?_ (w.heap.size + 1 + 1) 0 ?_ (invM m) hm1 hw1 ?_); exact rfl; exact rfl; exact rfl))
      exact bodyPost_ret (v := .agg (invM m).cells.toArray) (results_cell_row Try.results88 _ _ (w.heap.size + 1) 29 (invM m).cells.toArray (0, 0) (.struct _) rfl HB.out Try.underlying29 rfl HI5.out) rfl ⟨rfl, HM2.out.below⟩

set_option maxRecDepth 100000 in
set_option maxHeartbeats 4000000 in
theorem inverse_any (b o : Nat) (m : Mch) (hwf : m.Wf) (hok : m.Ok) (w : World) (hm : MAt w b o m) :
    Calls Try.prog 105 #[.pointer (some ⟨b, o, none⟩)] w (Ret (.agg (invM m).cells.toArray) w) := by
  have h3 := hok.l_le
  have h16 := hok.s_le
  have hbw : b < w.heap.size := World.block_lt_of_cell? w _ hm.l
  have HS : Hid (∀ W, Below w.heap.size w W → W.cell? ⟨b, o, none⟩ = some (.int .i64 m.L) ∧ W.cell? ⟨b, o + 1, none⟩ = some (.int .i64 m.S)) := fun W hW => ⟨(hm.below hW hbw).l, (hm.below hW hbw).s⟩
  have hM0 := ((Mm.start w).alloc Try.zeroCells29 29)
  have HM0 := Lib.hid hM0
  have hw0 := ivM_wf hok hwf 0 0
  have HI := Lib.hid (mach_infoT hw0)
  have H1 := Lib.hid (mach_ones (ivM m 0 0))
  have HST := Lib.hid (ivM_startA m)
  have hmx : Try.prog.follows .mixedOrders = true := by kernel_rfl
  have HMX := Lib.hid hmx
  have hlen := Mch.cells_length hw0
  have HLEN := Lib.hid hlen
  clear hM0 hmx hlen
  go_enter Try.func105, Try.ntmps105
  go_wp2_with fail
  refine region_S (fun W => W.cell? ⟨b, o, none⟩ = some (.int .i64 m.L) ∧ W.cell? ⟨b, o + 1, none⟩ = some (.int .i64 m.S)) [] 11 rfl HMX.out (HS.out _ HM0.out.below.drew) (fun hU => ?_)
  have HMa := Lib.hid HM0.out.drew
  obtain ⟨wa, hwa⟩ : ∃ wa, wa = (w.alloc (.cells Try.zeroCells29 29)).drew := ⟨_, rfl⟩
  have hsz : wa.heap.size = w.heap.size + 1 := by rw [hwa]; show (w.alloc _).heap.size = _; simp
  rw [← hwa] at hU HMa ⊢
  have HSZ := Lib.hid hsz
  clear hwa HM0 hsz
  (refine AnyS.take (i := 0) rfl (by kernel_rfl) (by kernel_rfl) (by kernel_rfl) (by rfl) (fun _ _ _ h => h) (by rfl) (by intro w; go_simp; with_reducible rfl) hU (fun hU => ?_); (try simp only [Act.put, List.setIfInBounds_toArray, List.set_cons_zero, List.set_cons_succ]); refine AnyS.take (i := 1) rfl (by kernel_rfl) (by kernel_rfl) (by kernel_rfl) (by rfl) (fun _ _ _ h => h) (by rfl) (by intro w; go_simp; with_reducible rfl) hU (fun hU => ?_); (try simp only [Act.put, List.setIfInBounds_toArray, List.set_cons_zero, List.set_cons_succ]); refine AnyS.take (i := 2) rfl (by kernel_rfl) (by kernel_rfl) (by kernel_rfl) (by rfl) (fun _ _ _ h => h) (by rfl) (by intro w; go_simp; with_reducible rfl) hU (fun hU => ?_); (try simp only [Act.put, List.setIfInBounds_toArray, List.set_cons_zero, List.set_cons_succ]))
  (refine AnyS.takeS (i := 3) rfl (by kernel_rfl) (by kernel_rfl) (by kernel_rfl) (by rfl) (by kernel_rfl) (by kernel_rfl) (fun _ _ _ h => h) (by rfl) (by intro W hSw; have h1 := hSw.1; clear hSw; go_simp; with_reducible rfl) hU (fun hU => ?_); (try simp only [Act.put, List.setIfInBounds_toArray, List.set_cons_zero, List.set_cons_succ]))
  (refine AnyS.take (i := 4) rfl (by kernel_rfl) (by kernel_rfl) (by kernel_rfl) (by rfl) (fun _ _ _ h => h) (by rfl) (by intro w; go_simp; with_reducible rfl) hU (fun hU => ?_); (try simp only [Act.put, List.setIfInBounds_toArray, List.set_cons_zero, List.set_cons_succ]); refine AnyS.take (i := 5) rfl (by kernel_rfl) (by kernel_rfl) (by kernel_rfl) (by rfl) (fun _ _ _ h => h) (by rfl) (by intro w; go_simp; with_reducible rfl) hU (fun hU => ?_); (try simp only [Act.put, List.setIfInBounds_toArray, List.set_cons_zero, List.set_cons_succ]); refine AnyS.take (i := 6) rfl (by kernel_rfl) (by kernel_rfl) (by kernel_rfl) (by rfl) (fun _ _ _ h => h) (by rfl) (by intro w; go_simp; with_reducible rfl) hU (fun hU => ?_); (try simp only [Act.put, List.setIfInBounds_toArray, List.set_cons_zero, List.set_cons_succ]))
  (refine AnyS.takeS (i := 7) rfl (by kernel_rfl) (by kernel_rfl) (by kernel_rfl) (by rfl) (by kernel_rfl) (by kernel_rfl) (fun _ _ _ h => h) (by rfl) (by intro W hSw; have h1 := hSw.2; clear hSw; go_simp; with_reducible rfl) hU (fun hU => ?_); (try simp only [Act.put, List.setIfInBounds_toArray, List.set_cons_zero, List.set_cons_succ]))
  (refine AnyS.take (i := 8) rfl (by kernel_rfl) (by kernel_rfl) (by kernel_rfl) (by rfl) (fun _ _ _ h => h) (by rfl) (by intro w; go_simp; with_reducible rfl) hU (fun hU => ?_); (try simp only [Act.put, List.setIfInBounds_toArray, List.set_cons_zero, List.set_cons_succ]))
  refine AnyS.branch (rs := [9]) (by kernel_rfl) (by simp) (AllS.cons rfl (fun K hK => ?_) AllS.nil)
  go_simp
  rw [HSZ.out]
  have hM1 := HMa.out.alloc Try.zeroCells29 29
  rw [HSZ.out] at hM1
  have ht := (hM1.at 0 rfl).there 0 (ivM m 0 0).cells.length (by simp only; rw [zero_len, HLEN.out]; omega)
  have hM2 := hM1.setAll 0 rfl (vs := (ivM m 0 0).cells) (by rw [zero_len, HLEN.out])
  simp only [List.set_cons_zero] at hM2
  have HM2 := Lib.hid hM2
  refine hK.out _ _ (.inl (HS.out _ hM1.below)) (fun hU => ?_)
  clear hK K
  (try simp only [Act.put, List.setIfInBounds_toArray, List.set_cons_zero, List.set_cons_succ])
  refine AnyS.branch (rs := [10]) (by kernel_rfl) (by simp) (AllS.cons rfl (fun K hK => ?_) AllS.nil)
  rw [if_pos (by kernel_rfl)]
  refine wp_store_mid 29 (.tmp 3) (.tmp 15) rfl (w.heap.size + 1) 0 (ivM m 0 0).cells.toArray rfl (by rw [← HST.out]; exact rfl) (by rw [List.size_toArray]; exact ht) (by rw [List.size_toArray]; exact HI.out) (all_oneCell_toArray H1.out) ?_
  refine hK.out _ _ (.inl (HS.out _ HM2.out.below)) (fun hU => ?_)
  clear hK K
  (try simp only [Act.put, List.setIfInBounds_toArray, List.set_cons_zero, List.set_cons_succ])
  refine AnyS.done (by kernel_rfl) ?_ _
  clear hU ht hM1 hM2
  generalize wa.alloc _ = wc at *
  have HM3 : Hid (Mm w.heap.size w (wc.setCells (w.heap.size + 1) 0 (ivM m 0 0).cells) [(w.heap.size + 1, (ivM m 0 0).cells, 29), (w.heap.size, Try.zeroCells29.toList, 29)] []) := HM2
  clear HM2
  have hs0 := (HS.out _ HM3.out.below).2
  rw [hok.S_eq] at hs0
  go_wp2_with fail
  go_loopw [20] (fun i wr => ∃ q : Nat, q ≤ m.s ∧ i = .int .i64 q ∧ Mm w.heap.size w wr [(w.heap.size + 1, (ivM m q 0).cells, 29), (w.heap.size, Try.zeroCells29.toList, 29)] []) (fun i _ => m.s - (intOf i).toNat)
  case atStart => exact ⟨0, Nat.zero_le _, rfl, HM3.out⟩
  case round =>
    clear HM3 HI H1 HST hs0
    obtain ⟨q, hq, rfl, hM⟩ := hrel
    by_cases hlt : q < m.s
    · have i1 : (0 : Int) ≤ (q : Int) := by omega
      have i2 : (q : Int) < 16 := by omega
      have i3 : (q : Int) < (m.s : Int) := by omega
      have cl := (HS.out _ hM.below).1
      rw [hok.L_eq] at cl
      go_wp2_with fail
      clear cl
      obtain ⟨wo, rfl⟩ : ∃ wo : World, wo = wr := ⟨_, rfl⟩
      go_loopw [27] (fun i wr => ∃ x : Nat, x ≤ m.l ∧ i = .int .i64 x ∧ Mm w.heap.size w wr [(w.heap.size + 1, (ivM m q x).cells, 29), (w.heap.size, Try.zeroCells29.toList, 29)] []) (fun i _ => m.l - (intOf i).toNat)
      case atStart => exact ⟨0, Nat.zero_le _, rfl, hM⟩
      case round =>
        clear hM
        obtain ⟨x, hx, rfl, hM⟩ := hrel
        by_cases hxl : x < m.l
        · have j1 : (0 : Int) ≤ (x : Int) := by omega
          have j2 : (x : Int) < 3 := by omega
          have j7 : (x : Int) < (m.l : Int) := by omega
          have HMW : Hid (MAt wr b o m) := hm.below hM.below hbw
          have HOUT : Hid (∀ W, MAt W b o m → Calls Try.prog 133 #[.pointer (some ⟨b, o, none⟩), .int .i64 q, .int .i64 x] W fun e w' => e = .returned (.int .i64 (m.on q x : Int)) ∧ W = w') := fun W hW => by
            have := out_any b o m hwf q x (by omega) (by omega) W hW
            rwa [Int.toNat_natCast, Int.toNat_natCast, hok.o_eq hwf hlt hxl] at this
          go_wp2_with fail
          refine (HOUT.out _ HMW.out).mono ?_
          rintro e w' ⟨rfl, rfl⟩
          have hy := hok.on_lt hwf hlt hxl
          have hz := hok.nn_lt hwf hlt hxl
          have hw1 := ivM_wf hok hwf q x
          have hw2 := ivH_wf hok hwf q x
          have hMd := hM.drew
          have d1 := (hMd.mach 0 rfl).oo hw1 (q := q) (x := m.on q x) (by omega) (by omega)
          have f1 := (hMd.at 0 rfl).free (50 + q * 3 + m.on q x)
          have hM2 := hMd.setCell 0 rfl (50 + q * 3 + m.on q x) (.int .u8 (x : Int))
          rw [ivO_step hok hwf hlt hxl] at hM2
          simp only [List.set_cons_zero] at hM2
          have HM2 := Lib.hid hM2
          have d2 := (hM2.mach 0 rfl).nn hw2 (q := q) (x := m.on q x) (by omega) (by omega)
          have f2 := (hM2.at 0 rfl).free (2 + q * 3 + m.on q x)
          have HD2 := Lib.hid d2
          have HF2 := Lib.hid f2
          have hM3 := hM2.setCell 0 rfl (2 + q * 3 + m.on q x) (.int .u8 (m.nn q x : Int))
          rw [ivN_step hok hwf hlt hxl] at hM3
          simp only [List.set_cons_zero] at hM3
          have HM3 := Lib.hid hM3
          have HSM : Hid (∀ W, Below w.heap.size w W → W.cell? ⟨b, o + 2 + q * 3 + x, none⟩ = some (.int .u8 (m.nn q x : Int))) := fun W hW => by
            have := (hm.below hW hbw).nn hwf (q := q) (x := x) (by omega) (by omega)
            rwa [hok.n_eq hwf hlt hxl] at this
          have j3 : (0 : Int) ≤ (m.on q x : Int) := by omega
          have j4 : (m.on q x : Int) < 3 := by omega
          have j5 : (m.nn q x : Int) < 16 := by omega
          have j6 : (0 : Int) ≤ (m.nn q x : Int) := by omega
          have HBL := Lib.hid hMd.below
          obtain ⟨W, hW⟩ : ∃ W, W = wr.drew := ⟨_, rfl⟩
          have HW := Lib.hid hW
          rw [← hW] at d1 f1 HM2 HD2 HF2 HM3 HBL
          clear hM2 hM3 hM hMd d2 f2 hw1 hw2 hW HOUT HMW
          generalize m.on q x = Y at *
          generalize m.nn q x = Z at *
          go_wp2_with fail
          refine region_S (fun W => W.cell? ⟨b, o + 2 + q * 3 + x, none⟩ = some (.int .u8 (Z : Int))) [] 22 rfl HMX.out (by rw [← HW.out]; exact HSM.out _ HBL.out) (fun hU => ?_)
          rw [← HW.out] at hU ⊢
          (refine AnyS.take (i := 0) rfl (by kernel_rfl) (by kernel_rfl) (by kernel_rfl) (by rfl) (fun _ _ _ h => h) (by rfl) (by intro w; go_simp; with_reducible rfl) hU (fun hU => ?_); (try simp only [Act.put, List.setIfInBounds_toArray, List.set_cons_zero, List.set_cons_succ]); refine AnyS.take (i := 1) rfl (by kernel_rfl) (by kernel_rfl) (by kernel_rfl) (by rfl) (fun _ _ _ h => h) (by rfl) (by intro w; go_simp; with_reducible rfl) hU (fun hU => ?_); (try simp only [Act.put, List.setIfInBounds_toArray, List.set_cons_zero, List.set_cons_succ]); refine AnyS.take (i := 2) rfl (by kernel_rfl) (by kernel_rfl) (by kernel_rfl) (by rfl) (fun _ _ _ h => h) (by rfl) (by intro w; go_simp; with_reducible rfl) hU (fun hU => ?_); (try simp only [Act.put, List.setIfInBounds_toArray, List.set_cons_zero, List.set_cons_succ]); refine AnyS.take (i := 3) rfl (by kernel_rfl) (by kernel_rfl) (by kernel_rfl) (by rfl) (fun _ _ _ h => h) (by rfl) (by intro w; go_simp; with_reducible rfl) hU (fun hU => ?_); (try simp only [Act.put, List.setIfInBounds_toArray, List.set_cons_zero, List.set_cons_succ]); refine AnyS.take (i := 4) rfl (by kernel_rfl) (by kernel_rfl) (by kernel_rfl) (by rfl) (fun _ _ _ h => h) (by rfl) (by intro w; go_simp; with_reducible rfl) hU (fun hU => ?_); (try simp only [Act.put, List.setIfInBounds_toArray, List.set_cons_zero, List.set_cons_succ]); refine AnyS.take (i := 5) rfl (by kernel_rfl) (by kernel_rfl) (by kernel_rfl) (by rfl) (fun _ _ _ h => h) (by rfl) (by intro w; go_simp; with_reducible rfl) hU (fun hU => ?_); (try simp only [Act.put, List.setIfInBounds_toArray, List.set_cons_zero, List.set_cons_succ]); refine AnyS.take (i := 6) rfl (by kernel_rfl) (by kernel_rfl) (by kernel_rfl) (by rfl) (fun _ _ _ h => h) (by rfl) (by intro w; go_simp; with_reducible rfl) hU (fun hU => ?_); (try simp only [Act.put, List.setIfInBounds_toArray, List.set_cons_zero, List.set_cons_succ]); refine AnyS.take (i := 7) rfl (by kernel_rfl) (by kernel_rfl) (by kernel_rfl) (by rfl) (fun _ _ _ h => h) (by rfl) (by intro w; go_simp; with_reducible rfl) hU (fun hU => ?_); (try simp only [Act.put, List.setIfInBounds_toArray, List.set_cons_zero, List.set_cons_succ]); refine AnyS.take (i := 8) rfl (by kernel_rfl) (by kernel_rfl) (by kernel_rfl) (by rfl) (fun _ _ _ h => h) (by rfl) (by intro w; go_simp; with_reducible rfl) hU (fun hU => ?_); (try simp only [Act.put, List.setIfInBounds_toArray, List.set_cons_zero, List.set_cons_succ]); refine AnyS.take (i := 9) rfl (by kernel_rfl) (by kernel_rfl) (by kernel_rfl) (by rfl) (fun _ _ _ h => h) (by rfl) (by intro w; go_simp; with_reducible rfl) hU (fun hU => ?_); (try simp only [Act.put, List.setIfInBounds_toArray, List.set_cons_zero, List.set_cons_succ]); refine AnyS.take (i := 10) rfl (by kernel_rfl) (by kernel_rfl) (by kernel_rfl) (by rfl) (fun _ _ _ h => h) (by rfl) (by intro w; go_simp; with_reducible rfl) hU (fun hU => ?_); (try simp only [Act.put, List.setIfInBounds_toArray, List.set_cons_zero, List.set_cons_succ]); refine AnyS.take (i := 11) rfl (by kernel_rfl) (by kernel_rfl) (by kernel_rfl) (by rfl) (fun _ _ _ h => h) (by rfl) (by intro w; go_simp; with_reducible rfl) hU (fun hU => ?_); (try simp only [Act.put, List.setIfInBounds_toArray, List.set_cons_zero, List.set_cons_succ]); refine AnyS.take (i := 12) rfl (by kernel_rfl) (by kernel_rfl) (by kernel_rfl) (by rfl) (fun _ _ _ h => h) (by rfl) (by intro w; go_simp; with_reducible rfl) hU (fun hU => ?_); (try simp only [Act.put, List.setIfInBounds_toArray, List.set_cons_zero, List.set_cons_succ]))
          rw [IntWalk.u8_in (x : Int) ⟨by omega, by omega⟩]
          (refine AnyS.takeS (i := 13) rfl (by kernel_rfl) (by kernel_rfl) (by kernel_rfl) (by rfl) (by kernel_rfl) (by kernel_rfl) (fun _ _ _ h => h) (by rfl) (by intro W hSw; go_simp; with_reducible rfl) hU (fun hU => ?_); (try simp only [Act.put, List.setIfInBounds_toArray, List.set_cons_zero, List.set_cons_succ]))
          (refine AnyS.take (i := 14) rfl (by kernel_rfl) (by kernel_rfl) (by kernel_rfl) (by rfl) (fun _ _ _ h => h) (by rfl) (by intro w; go_simp; with_reducible rfl) hU (fun hU => ?_); (try simp only [Act.put, List.setIfInBounds_toArray, List.set_cons_zero, List.set_cons_succ]); refine AnyS.take (i := 15) rfl (by kernel_rfl) (by kernel_rfl) (by kernel_rfl) (by rfl) (fun _ _ _ h => h) (by rfl) (by intro w; go_simp; with_reducible rfl) hU (fun hU => ?_); (try simp only [Act.put, List.setIfInBounds_toArray, List.set_cons_zero, List.set_cons_succ]); refine AnyS.take (i := 16) rfl (by kernel_rfl) (by kernel_rfl) (by kernel_rfl) (by rfl) (fun _ _ _ h => h) (by rfl) (by intro w; go_simp; with_reducible rfl) hU (fun hU => ?_); (try simp only [Act.put, List.setIfInBounds_toArray, List.set_cons_zero, List.set_cons_succ]); refine AnyS.take (i := 18) rfl (by kernel_rfl) (by kernel_rfl) (by kernel_rfl) (by rfl) (fun _ _ _ h => h) (by rfl) (by intro w; go_simp; with_reducible rfl) hU (fun hU => ?_); (try simp only [Act.put, List.setIfInBounds_toArray, List.set_cons_zero, List.set_cons_succ]); refine AnyS.take (i := 19) rfl (by kernel_rfl) (by kernel_rfl) (by kernel_rfl) (by rfl) (fun _ _ _ h => h) (by rfl) (by intro w; go_simp; with_reducible rfl) hU (fun hU => ?_); (try simp only [Act.put, List.setIfInBounds_toArray, List.set_cons_zero, List.set_cons_succ]))
          refine AnyS.branch (rs := [17]) (by kernel_rfl) (by simp) (AllS.cons rfl (fun K hK => ?_) AllS.nil)
          go_simp
          refine hK.out _ _ (.inl (HSM.out _ HM2.out.below)) (fun hU => ?_)
          clear hK K d1 f1
          (try simp only [Act.put, List.setIfInBounds_toArray, List.set_cons_zero, List.set_cons_succ])
          (refine AnyS.take (i := 20) rfl (by kernel_rfl) (by kernel_rfl) (by kernel_rfl) (by rfl) (fun _ _ _ h => h) (by rfl) (by intro w; go_simp; with_reducible rfl) hU (fun hU => ?_); (try simp only [Act.put, List.setIfInBounds_toArray, List.set_cons_zero, List.set_cons_succ]))
          refine AnyS.branch (rs := [21]) (by kernel_rfl) (by simp) (AllS.cons rfl (fun K hK => ?_) AllS.nil)
          have d2 := HD2.out
          have f2 := HF2.out
          go_simp
          refine hK.out _ _ (.inl (HSM.out _ HM3.out.below)) (fun hU => ?_)
          clear hK K d2 f2
          (try simp only [Act.put, List.setIfInBounds_toArray, List.set_cons_zero, List.set_cons_succ])
          refine AnyS.done (by kernel_rfl) ?_ _
          clear hU
          go_wp2_with fail
          go_roundw
          case rel => exact ⟨x + 1, by omega, by go_num, HM3.out⟩
          case measure => simp [intOf] <;> omega
        · have hx' : x = m.l := by omega
          subst hx'
          rw [ivM_row hok hwf hlt] at hM
          go_wp2_with fail
          go_roundw
          case rel => exact ⟨q + 1, by omega, by go_num, hM⟩
          case measure => simp [intOf]; omega
    · have hq' : q = m.s := by omega
      subst hq'
      rw [ivM_all] at hM
      have hw1 := invM_wf hok hwf
      have hm1 := hM.mach 0 rfl
      have ht := (hM.at 1 rfl).there 0 (invM m).cells.length (by simp only; rw [zero_len, Mch.cells_length hw1]; omega)
      have HI := Lib.hid (mach_infoT hw1)
      have H1 := Lib.hid (mach_ones (invM m))
      have hM2 := hM.setAll 1 rfl (vs := (invM m).cells) (by rw [zero_len, Mch.cells_length hw1])
      have HB := Lib.hid (hM2.at 1 rfl)
      have HM2 := Lib.hid hM2
      have HI5 : Hid ((Try.prog.info? 29).map (·.size) = some (invM m).cells.toArray.size) := HI.out.trans (by rw [List.size_toArray])
      clear hM2
      go_wp2_with (first | ((with_reducible refine st_row ?_ 29 (.tmp 2) (.tmp 56) ?_ w.heap.size 0 (invM m).cells ?_ ?_ ht HI.out H1.out ?_); exact rfl; exact rfl; exact rfl; exact rfl) | ((with_reducible refine ld_mach ?_ (.tmp 3) ?_ (w.heap.size + 1) 0 ?_ (invM m) hm1 hw1 ?_); exact rfl; exact rfl; exact rfl))
      exact bodyPost_ret (v := .agg (invM m).cells.toArray) (results_cell_row Try.results105 _ _ w.heap.size 29 (invM m).cells.toArray (0, 0) (.struct _) rfl HB.out Try.underlying29 rfl HI5.out) rfl ⟨rfl, HM2.out.below⟩
end Go.Proofs.Yteagecoiijhflaa

/- Words of a level and their numbers: no program in sight. -/
namespace Go.Proofs.Yteagecoiijhflaa
open Go.RowKit
set_option linter.unusedVariables false
set_option linter.unusedSimpArgs false

end Go.Proofs.Yteagecoiijhflaa

/- codeOf, lead. -/
namespace Go.Proofs.Yteagecoiijhflaa
open Go.RowKit
set_option linter.unusedVariables false
set_option linter.unusedSimpArgs false

end Go.Proofs.Yteagecoiijhflaa

/- lead: what a state makes of a word, and its section there. -/
namespace Go.Proofs.Yteagecoiijhflaa
open Go.RowKit
set_option linter.unusedVariables false
set_option linter.unusedSimpArgs false

/-- 'make([]byte, n)' -/
theorem mk_u8 (n : Nat) (hn : n ≤ 100000) (u : World) : (Instr.makeSlice 106 (.int .i64 (n : Int)) (.int .i64 (n : Int))).run Try.prog u =
    .ok (.slice (some ⟨u.heap.size, 0, none⟩) n n) (u.alloc (.cells (madeCells #[.int .u8 0] n) 5)) := by
  obtain ⟨i0, hi, hz0, hz1, hz2⟩ := info_parts Try.info5
  have h := run_make (P := Try.prog) u 106 5 i0 (.int .u8 0) Try.underlying106 hi hz0 .i64 .i64 (n : Int) (n : Int) (by omega) (Int.le_refl _) (by rw [hz2]; omega) (by omega)
  simpa [hz1, Value.cells] using h
theorem made_u8 (n : Nat) : (madeCells #[Value.int .u8 0] n).toList = u8s (List.replicate n 0) := by
  have : (madeCells #[Value.int .u8 0] n).toList = (List.range n).map fun _ => Value.int .u8 0 := by
    simp only [madeCells, Array.toList_map, Array.toList_range]
    exact List.map_congr_left fun x _ => by simp [Nat.mod_one]
  rw [this, u8s, List.map_const', List.length_range, List.map_replicate]

end Go.Proofs.Yteagecoiijhflaa

/- Powers, words of a level, their numbers: contracts of both sides. -/
namespace Go.Proofs.Yteagecoiijhflaa
open Go.RowKit
set_option linter.unusedVariables false
set_option linter.unusedSimpArgs false

/-! words -/
end Go.Proofs.Yteagecoiijhflaa

/- Levels; numbers of words; codes of levels: contracts of both sides. -/
namespace Go.Proofs.Yteagecoiijhflaa
open Go.RowKit
set_option linter.unusedVariables false
set_option linter.unusedSimpArgs false

end Go.Proofs.Yteagecoiijhflaa

/- Tables: two slices of rows under one pointer, while they are built. -/
namespace Go.Proofs.Yteagecoiijhflaa
open Go.RowKit
set_option linter.unusedVariables false
set_option linter.unusedSimpArgs false

def i64s (xs : List Int) : List Value := xs.map (Value.int .i64)
theorem i64s_get {xs : List Int} {i : Nat} (h : i < xs.length) : (i64s xs)[i]? = some (.int .i64 (xs[i]?.getD 0)) := by
  simp [i64s, List.getElem?_eq_getElem h]
/-- v is a slice of the values xs, at the head of a block of E's that nobody has frozen -/
def RowV (w : World) (E : TypeId) (v : Value) (xs : List Value) : Prop :=
  ∃ g c cur, v = .slice (some ⟨g, 0, none⟩) xs.length c ∧ w.heap[g]? = some (.cells cur E (0, 0)) ∧ cur.toList.take xs.length = xs
theorem RowV.same {w w' : World} {E : TypeId} {v : Value} {xs : List Value} (h : RowV w E v xs) (hb : ∀ (g : Nat) (cur : Array Value), w.heap[g]? = some (.cells cur E (0, 0)) → w'.heap[g]? = some (.cells cur E (0, 0))) : RowV w' E v xs := by
  obtain ⟨g, c, cur, hv, hg, ht⟩ := h
  exact ⟨g, c, cur, hv, hb g cur hg, ht⟩
theorem RowV.keep {w w' : World} {E : TypeId} {v : Value} {xs : List Value} (h : RowV w E v xs) (hb : Below w.heap.size w w') : RowV w' E v xs :=
  h.same fun g cur hg => (hb.block g (Array.getElem?_eq_some_iff.1 hg).1).trans hg
theorem RowV.of_own {w : World} {base : Nat} {E : TypeId} {v : Value} {xs : List Value} (h : w.ownsRow base E 1 v xs.length xs) (h0 : 0 < xs.length) : RowV w E v xs := by
  rcases h.2 with ⟨_, e⟩ | ⟨g, cap, cur, rfl, hb, hg, h1, h2, h3, h4⟩
  · omega
  · exact ⟨g, cap, cur, rfl, hg, by simpa using h4⟩
theorem RowV.cell {w : World} {E : TypeId} {v : Value} {xs : List Value} (h : RowV w E v xs) : ∃ g c, v = .slice (some ⟨g, 0, none⟩) xs.length c ∧ ∀ i (hi : i < xs.length), w.cell? ⟨g, i, none⟩ = some xs[i] := by
  obtain ⟨g, c, cur, hv, hg, ht⟩ := h
  refine ⟨g, c, hv, fun i hi => ?_⟩
  rw [cell_of_row w g i _ E _ hg, ← Array.getElem?_toList, ← List.getElem?_take_of_lt hi, ht, List.getElem?_eq_getElem hi]

/-- an append to a row of another type leaves it -/
theorem RowV.grown {w w' : World} {E F : TypeId} {v o : Value} {xs ys : List Value} {base n : Nat} (h : RowV w E v xs) (hg : w.grownBy w' o.ownBlock) (ho : w.ownsRow base F 1 o n ys) (hne : E ≠ F) : RowV w' E v xs :=
  h.same fun g cur hc => by
    rw [hg.block g (Array.getElem?_eq_some_iff.1 hc).1 (fun e => ?_)]; exact hc
    rcases ho.2 with ⟨rfl, _⟩ | ⟨g', cap, cur', rfl, _, hg', _⟩
    · simp [Value.ownBlock] at e
    · simp [Value.ownBlock] at e
      subst e
      rw [hg'] at hc
      simp at hc
      exact hne hc.2.symm
theorem Blk.grown {w w' : World} {b T F : Nat} {cs ys : List Value} {o : Value} {base n : Nat} (h : Blk w b cs T) (hg : w.grownBy w' o.ownBlock) (ho : w.ownsRow base F 1 o n ys) (hne : T ≠ F) : Blk w' b cs T := by
  show _ = _
  rw [hg.block b h.lt (fun e => ?_)]; exact h
  rcases ho.2 with ⟨rfl, _⟩ | ⟨g', cap, cur', rfl, _, hg', _⟩
  · simp [Value.ownBlock] at e
  · simp [Value.ownBlock] at e
    subst e
    have := hg'.symm.trans h
    simp at this
    exact hne this.2.symm

/-- slices of rows -/
def RowsV (w : World) (E : TypeId) (rs : List Value) (N : List (List Value)) : Prop := rs.length = N.length ∧ ∀ (i : Nat) (v : Value) (xs : List Value), rs[i]? = some v → N[i]? = some xs → RowV w E v xs
theorem RowsV.same {w w' : World} {E : TypeId} {rs : List Value} {N : List (List Value)} (h : RowsV w E rs N) (hk : ∀ v xs, RowV w E v xs → RowV w' E v xs) : RowsV w' E rs N :=
  ⟨h.1, fun i v xs h1 h2 => hk v xs (h.2 i v xs h1 h2)⟩
theorem RowsV.add {w : World} {E : TypeId} {rs : List Value} {N : List (List Value)} {v : Value} {xs : List Value} (h : RowsV w E rs N) (hv : RowV w E v xs) : RowsV w E (rs ++ [v]) (N ++ [xs]) := by
  refine ⟨by simp [h.1], fun i u ys h1 h2 => ?_⟩
  by_cases hi : i < rs.length
  · rw [List.getElem?_append_left hi] at h1
    rw [List.getElem?_append_left (by rw [← h.1]; exact hi)] at h2
    exact h.2 i u ys h1 h2
  · rw [List.getElem?_append_right (by omega)] at h1
    rw [List.getElem?_append_right (by rw [← h.1]; omega), ← h.1] at h2
    by_cases e : i - rs.length = 0
    · rw [e] at h1 h2; simp at h1 h2; subst h1; subst h2; exact hv
    · rw [List.getElem?_eq_none (by simp; omega)] at h1; cases h1

/-- what table() has made so far: the pair (tN, tO) lies in block T; vN and vO are the slices of rows, behind the appends -/
structure TabM (B : Nat) (w : World) (T : Nat) (tN tO vN vO : Value) (rN rO : List Value) (N O : List (List Value)) (v5 : Value) (x5 : List Value) (v6 : Value) (x6 : List Value) : Prop where
  bs : B ≤ w.heap.size
  blk : Blk w T [tN, tO] 168
  oN : w.ownsRow B 26 1 vN rN.length rN
  oO : w.ownsRow B 26 1 vO rO.length rO
  ne : vN.ownBlock = none ∨ vN.ownBlock ≠ vO.ownBlock
  rowsN : RowsV w 2 rN N
  rowsO : RowsV w 2 rO O
  r5 : RowV w 2 v5 x5
  r6 : RowV w 2 v6 x6
section
variable {B : Nat} {w w' : World} {T : Nat} {tN tO vN vO : Value} {rN rO : List Value} {N O : List (List Value)} {v5 v6 : Value} {x5 x6 : List Value}
theorem TabM.keep (h : TabM B w T tN tO vN vO rN rO N O v5 x5 v6 x6) (hb : Below w.heap.size w w') : TabM B w' T tN tO vN vO rN rO N O v5 x5 v6 x6 := by
  have hg : w.grownBy w' none := ⟨hb.os, hb.tape, hb.output, hb.size, fun k hk _ => hb.block k hk⟩
  exact ⟨Nat.le_trans h.bs hb.size, h.blk.keep hb, h.oN.kept hg (by by_cases e : vN.ownBlock = none <;> simp [e]), h.oO.kept hg (by by_cases e : vO.ownBlock = none <;> simp [e]), h.ne,
    h.rowsN.same fun _ _ h => h.keep hb, h.rowsO.same fun _ _ h => h.keep hb, h.r5.keep hb, h.r6.keep hb⟩
theorem TabM.alloc (h : TabM B w T tN tO vN vO rN rO N O v5 x5 v6 x6) (o : Obj) : TabM B (w.alloc o) T tN tO vN vO rN rO N O v5 x5 v6 x6 :=
  h.keep ((Below.refl _ w).alloc (Nat.le_refl _) o)
theorem TabM.drew (h : TabM B w T tN tO vN vO rN rO N O v5 x5 v6 x6) : TabM B w.drew T tN tO vN vO rN rO N O v5 x5 v6 x6 := ⟨h.bs, h.blk, h.oN, h.oO, h.ne, h.rowsN.same fun _ _ h => h.same fun _ _ h => h, h.rowsO.same fun _ _ h => h.same fun _ _ h => h, h.r5.same fun _ _ h => h, h.r6.same fun _ _ h => h⟩
theorem TabM.appN (h : TabM B w T tN tO vN vO rN rO N O v5 x5 v6 x6) {v : Value} {g cap : Nat} (hv : v = .slice (some ⟨g, 0, none⟩) (rN.length + 1) cap)
    (ho : w'.ownsRow B 26 1 v (rN.length + 1) (rN ++ [v5])) (hg : w.grownBy w' vN.ownBlock) (hl : vN.ownBlock = some g ∨ g = w.heap.size) :
    TabM B w' T tN tO v vO (rN ++ [v5]) rO (N ++ [x5]) O v5 x5 v6 x6 := by
  have r5' := h.r5.grown hg h.oN (by decide)
  refine ⟨Nat.le_trans h.bs hg.size, h.blk.grown hg h.oN (by decide), by simpa using ho, h.oO.kept hg ?_, ?_, (h.rowsN.same fun _ _ h' => h'.grown hg h.oN (by decide)).add r5', h.rowsO.same fun _ _ h' => h'.grown hg h.oN (by decide), r5', h.r6.grown hg h.oN (by decide)⟩
  · rcases h.ne with e | e
    · rw [e]; by_cases e' : vO.ownBlock = none <;> simp [e']
    · exact .inr (Ne.symm e)
  · right
    subst hv
    intro e
    simp only [Value.ownBlock] at e
    rcases hl with hl | hl
    · rcases h.ne with e' | e'
      · rw [e'] at hl; cases hl
      · rw [hl] at e'; exact e' e
    · have := (h.oO.lt g e.symm).2; omega
theorem TabM.appO (h : TabM B w T tN tO vN vO rN rO N O v5 x5 v6 x6) {v : Value} {g cap : Nat} (hv : v = .slice (some ⟨g, 0, none⟩) (rO.length + 1) cap)
    (ho : w'.ownsRow B 26 1 v (rO.length + 1) (rO ++ [v6])) (hg : w.grownBy w' vO.ownBlock) (hl : vO.ownBlock = some g ∨ g = w.heap.size) :
    TabM B w' T tN tO vN v rN (rO ++ [v6]) N (O ++ [x6]) v5 x5 v6 x6 := by
  have r6' := h.r6.grown hg h.oO (by decide)
  refine ⟨Nat.le_trans h.bs hg.size, h.blk.grown hg h.oO (by decide), h.oN.kept hg h.ne, by simpa using ho, ?_, h.rowsN.same fun _ _ h' => h'.grown hg h.oO (by decide), (h.rowsO.same fun _ _ h' => h'.grown hg h.oO (by decide)).add r6', h.r5.grown hg h.oO (by decide), r6'⟩
  subst hv
  by_cases e0 : vN.ownBlock = none
  · exact .inl e0
  · right
    intro e
    simp only [Value.ownBlock] at e
    rcases hl with hl | hl
    · rcases h.ne with e' | e'
      · exact e0 e'
      · rw [hl] at e'; exact e' e
    · have := (h.oN.lt g e).2; omega
/-- the stores at the end -/
theorem TabM.store (h : TabM B w T tN tO vN vO rN rO N O v5 x5 v6 x6) : TabM B ((w.setCell ⟨T, 0, none⟩ vN).setCell ⟨T, 1, none⟩ vO) T vN vO vN vO rN rO N O v5 x5 v6 x6 := by
  have hs : ∀ (w : World) (i : Nat) (u : Value) (cs : List Value), Blk w T cs 168 → ∀ (E : TypeId), E ≠ 168 → ∀ (g : Nat) (cur : Array Value), w.heap[g]? = some (.cells cur E (0, 0)) → (w.setCell ⟨T, i, none⟩ u).heap[g]? = some (.cells cur E (0, 0)) := by
    intro w i u cs hb E hE g cur hg
    rw [heap_setCell_other w ⟨T, i, none⟩ g u (fun e => ?_)]; exact hg
    simp only at e
    subst e
    have := hg.symm.trans hb
    simp at this
    exact hE this.2
  have h1 := h.blk.setCell 0 vN
  have h2 := h1.setCell 1 vO
  have go : ∀ (E : TypeId), E ≠ 168 → ∀ (g : Nat) (cur : Array Value), w.heap[g]? = some (.cells cur E (0, 0)) → ((w.setCell ⟨T, 0, none⟩ vN).setCell ⟨T, 1, none⟩ vO).heap[g]? = some (.cells cur E (0, 0)) :=
    fun E hE g cur hg => hs _ 1 vO _ h1 E hE g cur (hs _ 0 vN _ h.blk E hE g cur hg)
  have own : ∀ {v : Value} {n : Nat} {xs : List Value}, w.ownsRow B 26 1 v n xs → ((w.setCell ⟨T, 0, none⟩ vN).setCell ⟨T, 1, none⟩ vO).ownsRow B 26 1 v n xs := fun ho => by
    refine ⟨ho.1, ?_⟩
    rcases ho.2 with hn | ⟨g, cap, cur, hv, hb, hg, rest⟩
    · exact .inl hn
    · exact .inr ⟨g, cap, cur, hv, hb, go _ (by decide) g cur hg, rest⟩
  refine ⟨?_, ?_, own h.oN, own h.oO, h.ne, h.rowsN.same fun _ _ h' => h'.same (go _ (by decide)), h.rowsO.same fun _ _ h' => h'.same (go _ (by decide)), h.r5.same (go _ (by decide)), h.r6.same (go _ (by decide))⟩
  · have := h.bs; simpa [World.setCell] using this
  · simpa using h2
end
/-- the block of an element to be appended, apart from both slices -/
def TmpB (w : World) (t : Nat) (v vN vO : Value) : Prop := Blk w t [v] 26 ∧ vN.ownBlock ≠ some t ∧ vO.ownBlock ≠ some t
section
variable {B : Nat} {w w' : World} {T t g cap n : Nat} {tN tO vN vO v u : Value} {rN rO : List Value} {N O : List (List Value)} {v5 v6 : Value} {x5 x6 : List Value}
theorem TabM.tmp (h : TabM B w T tN tO vN vO rN rO N O v5 x5 v6 x6) (v : Value) : TmpB (w.alloc (.cells #[v] 26)) w.heap.size v vN vO :=
  ⟨Blk.new w #[v] _, fun e => by have := (h.oN.lt _ e).2; omega, fun e => by have := (h.oO.lt _ e).2; omega⟩
theorem TmpB.alloc (h : TmpB w t v vN vO) (o : Obj) : TmpB (w.alloc o) t v vN vO := ⟨h.1.alloc o, h.2⟩
theorem TmpB.appN (h : TmpB w t v vN vO) (hg : w.grownBy w' vN.ownBlock) (hl : vN.ownBlock = some g ∨ g = w.heap.size) : TmpB w' t v (.slice (some ⟨g, 0, none⟩) n cap) vO := by
  refine ⟨(hg.block t h.1.lt (fun e => h.2.1 e.symm)).trans h.1, fun e => ?_, h.2.2⟩
  simp only [Value.ownBlock] at e
  rcases hl with hl | hl
  · exact h.2.1 (hl.trans e)
  · have := h.1.lt; simp at e; omega
theorem TmpB.news (h : TmpB w t v vN vO) : ∀ j u, [v][j]? = some u → w.cell? ((⟨t, 0, none⟩ : Addr).add j) = some u := by
  intro j u hj
  match j, hj with
  | 0, hj => simp at hj; subst hj; simpa [Addr.add] using h.1.cell' (i := 0) rfl
theorem TabM.belN (h : TabM B w T tN tO vN vO rN rO N O v5 x5 v6 x6) {w0 : World} (hb : Below B w0 w) (hg : w.grownBy w' vN.ownBlock) : Below B w0 w' := hb.grown hg h.bs fun k hk => (h.oN.lt k hk).1
theorem TabM.belO (h : TabM B w T tN tO vN vO rN rO N O v5 x5 v6 x6) {w0 : World} (hb : Below B w0 w) (hg : w.grownBy w' vO.ownBlock) : Below B w0 w' := hb.grown hg h.bs fun k hk => (h.oO.lt k hk).1
end
/-- a table, whole: two slices of rows under one pointer -/
def Tab (B : Nat) (w : World) (T : Nat) (N O : List (List Value)) : Prop := ∃ vN vO rN rO, B ≤ w.heap.size ∧ Blk w T [vN, vO] 168 ∧ w.ownsRow B 26 1 vN rN.length rN ∧ w.ownsRow B 26 1 vO rO.length rO ∧
  (vN.ownBlock = none ∨ vN.ownBlock ≠ vO.ownBlock) ∧ RowsV w 2 rN N ∧ RowsV w 2 rO O
theorem Tab.keep {B : Nat} {w w' : World} {T : Nat} {N O : List (List Value)} (h : Tab B w T N O) (hb : Below w.heap.size w w') : Tab B w' T N O := by
  obtain ⟨vN, vO, rN, rO, h1, h2, h3, h4, h5, h6, h7⟩ := h
  have hg : w.grownBy w' none := ⟨hb.os, hb.tape, hb.output, hb.size, fun k hk _ => hb.block k hk⟩
  exact ⟨vN, vO, rN, rO, Nat.le_trans h1 hb.size, h2.keep hb, h3.kept hg (by by_cases e : vN.ownBlock = none <;> simp [e]), h4.kept hg (by by_cases e : vO.ownBlock = none <;> simp [e]), h5,
    h6.same fun _ _ h => h.keep hb, h7.same fun _ _ h => h.keep hb⟩
theorem TabM.tab {B : Nat} {w : World} {T : Nat} {vN vO : Value} {rN rO : List Value} {N O : List (List Value)} {v5 v6 : Value} {x5 x6 : List Value} (h : TabM B w T vN vO vN vO rN rO N O v5 x5 v6 x6) : Tab B w T N O :=
  ⟨vN, vO, rN, rO, h.bs, h.blk, h.oN, h.oO, h.ne, h.rowsN, h.rowsO⟩
theorem Tab.more {B : Nat} {w w' : World} {T : Nat} {N O : List (List Value)} (h : Tab B w T N O) (hb : Below w.heap.size w w') {v5 v6 : Value} {x5 x6 : List Value} (h5 : RowV w' 2 v5 x5) (h6 : RowV w' 2 v6 x6) :
    ∃ vN vO rN rO, TabM B w' T vN vO vN vO rN rO N O v5 x5 v6 x6 := by
  obtain ⟨vN, vO, rN, rO, h1, h2, h3, h4, h5', h6', h7⟩ := h.keep hb
  exact ⟨vN, vO, rN, rO, h1, h2, h3, h4, h5', h6', h7, h5, h6⟩
theorem Tab.start {B : Nat} {w : World} {T : Nat} (h : Blk w T [.slice none 0 0, .slice none 0 0] 168) (hB : B ≤ w.heap.size) : Tab B w T [] [] :=
  ⟨_, _, [], [], hB, h, World.ownsRow_nil _ _ _ _, World.ownsRow_nil _ _ _ _, .inl rfl, ⟨rfl, fun i v xs h => by simp at h⟩, ⟨rfl, fun i v xs h => by simp at h⟩⟩
end Go.Proofs.Yteagecoiijhflaa
