import Derived.Test.YteagecoiijhflaaZLReturnOf02
import Derived.Test.YteagecoiijhflaaZLReturnOf03
import Derived.StillTailTactics
import Derived.IntWalk
import Derived.Test.YteagecoiijhflaaZLReturnOf01
import Derived.Deep.RegionWith
/- The inverse machine: reference and program. -/
namespace Go.Proofs.Yteagecoiijhflaa
open Go.RowKit
set_option linter.unusedVariables false
set_option linter.unusedSimpArgs false

/-- the inverse machine as far as it is made: states below q, and of q the entries of the letters below x -/
def ivB (m : Mch) (q x i : Nat) : Bool := decide (i / 3 < m.s) && decide (i % 3 < m.l) && (decide (i / 3 < q) || decide (i / 3 = q) && decide (invX m (i / 3) (i % 3) < x))
def ivN (m : Mch) (q x i : Nat) : Int := if ivB m q x i = true then m.n (i / 3) (invX m (i / 3) (i % 3)) else 0
def ivO (m : Mch) (q x i : Nat) : Int := if ivB m q x i = true then (invX m (i / 3) (i % 3) : Int) else 0
def ivM (m : Mch) (q x : Nat) : Mch := ⟨m.L, m.S, (List.range 48).map (ivN m q x), (List.range 48).map (ivO m q x)⟩
/-- .. the output alone of the last letter -/
def ivH (m : Mch) (q x : Nat) : Mch := ⟨m.L, m.S, (List.range 48).map (ivN m q x), (List.range 48).map (ivO m q (x + 1))⟩
theorem map48_congr {f g : Nat → Int} (h : ∀ i, i < 48 → f i = g i) : (List.range 48).map f = (List.range 48).map g := List.map_congr_left fun i hi => h i (by simpa using hi)
theorem map48_set (f : Nat → Int) {j : Nat} (hj : j < 48) (v : Int) : ((List.range 48).map f).set j v = (List.range 48).map fun i => if i = j then v else f i := by
  apply List.ext_getElem
  · simp
  · intro i h1 h2
    rw [List.getElem_set]
    simp only [List.getElem_map, List.getElem_range]
    by_cases e : j = i
    · subst e; simp
    · rw [if_neg e, if_neg (fun h => e h.symm)]
theorem cells_setN (L S : Int) (N O : List Int) (i : Nat) (hi : i < N.length) (v : Int) : (Mch.cells ⟨L, S, N, O⟩).set (2 + i) (.int .u8 v) = Mch.cells ⟨L, S, N.set i v, O⟩ := by
  simp only [Mch.cells]
  rw [show 2 + i = i + 1 + 1 by omega, List.set_cons_succ, List.set_cons_succ, ← List.map_set, List.set_append_left _ _ hi]
theorem cells_setO (L S : Int) (N O : List Int) (i : Nat) (hn : N.length = 48) (v : Int) : (Mch.cells ⟨L, S, N, O⟩).set (50 + i) (.int .u8 v) = Mch.cells ⟨L, S, N, O.set i v⟩ := by
  simp only [Mch.cells]
  rw [show 50 + i = (48 + i) + 1 + 1 by omega, List.set_cons_succ, List.set_cons_succ, ← List.map_set, List.set_append_right _ _ (by omega), hn, show 48 + i - 48 = i by omega]
theorem ivB_step {m : Mch} (hok : m.Ok) (hwf : m.Wf) {q x i : Nat} (hq : q < m.s) (hx : x < m.l) (hi : i < 48) : ivB m q (x + 1) i = (decide (i = q * 3 + m.on q x) || ivB m q x i) := by
  have hy := hok.on_lt hwf hq hx
  have h3 := hok.l_le
  rw [Bool.eq_iff_iff]
  simp only [ivB, Bool.and_eq_true, Bool.or_eq_true, decide_eq_true_eq]
  by_cases e : i = q * 3 + m.on q x
  · have e1 : i / 3 = q := by omega
    have e2 : i % 3 = m.on q x := by omega
    rw [e1, e2, invX_of hok hwf hq hx]
    constructor
    · intro _; exact .inl e
    · intro _; exact ⟨⟨hq, hy⟩, .inr ⟨rfl, by omega⟩⟩
  · constructor
    · rintro ⟨⟨h1, h2⟩, h | ⟨h4, h5⟩⟩
      · exact .inr ⟨⟨h1, h2⟩, .inl h⟩
      · refine .inr ⟨⟨h1, h2⟩, .inr ⟨h4, ?_⟩⟩
        rcases Nat.lt_or_ge (invX m (i / 3) (i % 3)) x with c | c
        · exact c
        · exfalso
          have e' : invX m (i / 3) (i % 3) = x := by omega
          have := (invX_spec hok hwf h1 h2).2
          rw [e', h4] at this
          omega
    · rintro (h | ⟨⟨h1, h2⟩, h | ⟨h4, h5⟩⟩)
      · exact absurd h e
      · exact ⟨⟨h1, h2⟩, .inl h⟩
      · exact ⟨⟨h1, h2⟩, .inr ⟨h4, by omega⟩⟩
theorem ivO_step {m : Mch} (hok : m.Ok) (hwf : m.Wf) {q x : Nat} (hq : q < m.s) (hx : x < m.l) : (ivM m q x).cells.set (50 + q * 3 + m.on q x) (.int .u8 (x : Int)) = (ivH m q x).cells := by
  rw [Nat.add_assoc]
  have hy := hok.on_lt hwf hq hx
  have h3 := hok.l_le
  have h16 := hok.s_le
  rw [ivM, cells_setO _ _ _ _ _ (by simp), map48_set _ (by omega), ivH]
  congr 2
  refine map48_congr fun i hi => ?_
  simp only [ivO, ivB_step hok hwf hq hx hi]
  by_cases e : i = q * 3 + m.on q x
  · have e1 : i / 3 = q := by omega
    have e2 : i % 3 = m.on q x := by omega
    simp [e, e1, e2, invX_of hok hwf hq hx]
    rw [show (q * 3 + m.on q x) / 3 = q by omega, show m.on q x % 3 = m.on q x by omega, invX_of hok hwf hq hx]
  · simp [e]
theorem ivN_step {m : Mch} (hok : m.Ok) (hwf : m.Wf) {q x : Nat} (hq : q < m.s) (hx : x < m.l) : (ivH m q x).cells.set (2 + q * 3 + m.on q x) (.int .u8 (m.nn q x : Int)) = (ivM m q (x + 1)).cells := by
  rw [Nat.add_assoc]
  have hy := hok.on_lt hwf hq hx
  have h3 := hok.l_le
  have h16 := hok.s_le
  rw [ivH, cells_setN _ _ _ _ _ (by simp; omega), map48_set _ (by omega), ivM]
  congr 2
  refine map48_congr fun i hi => ?_
  simp only [ivN, ivB_step hok hwf hq hx hi]
  by_cases e : i = q * 3 + m.on q x
  · simp [e]
    rw [show (q * 3 + m.on q x) / 3 = q by omega, show m.on q x % 3 = m.on q x by omega, invX_of hok hwf hq hx, hok.n_eq hwf hq hx]
  · simp [e]
theorem ivM_row {m : Mch} (hok : m.Ok) (hwf : m.Wf) {q : Nat} (hq : q < m.s) : ivM m q m.l = ivM m (q + 1) 0 := by
  have : ∀ i, ivB m q m.l i = ivB m (q + 1) 0 i := fun i => by
    rw [Bool.eq_iff_iff]
    simp only [ivB, Bool.and_eq_true, Bool.or_eq_true, decide_eq_true_eq]
    constructor
    · rintro ⟨⟨h1, h2⟩, h | ⟨h4, h5⟩⟩
      · exact ⟨⟨h1, h2⟩, .inl (by omega)⟩
      · exact ⟨⟨h1, h2⟩, .inl (by omega)⟩
    · rintro ⟨⟨h1, h2⟩, h | ⟨h4, h5⟩⟩
      · by_cases e : i / 3 = q
        · exact ⟨⟨h1, h2⟩, .inr ⟨e, (invX_spec hok hwf h1 h2).1⟩⟩
        · exact ⟨⟨h1, h2⟩, .inl (by omega)⟩
      · omega
  simp only [ivM]
  congr 1 <;> exact map48_congr fun i _ => by simp only [ivN, ivO, this]
theorem ivM_all {m : Mch} : ivM m m.s 0 = invM m := by
  have hb : ∀ i, ivB m m.s 0 i = true ↔ i / 3 < m.s ∧ i % 3 < m.l := fun i => by
    simp only [ivB, Bool.and_eq_true, Bool.or_eq_true, decide_eq_true_eq]
    constructor
    · exact fun h => h.1
    · exact fun h => ⟨h, .inl h.1⟩
  simp only [ivM, invM]
  congr 1
  · exact map48_congr fun i _ => by simp only [ivN, hb]
  · exact map48_congr fun i _ => by simp only [ivO, hb]
theorem ivM_none (m : Mch) : ivM m 0 0 = ⟨m.L, m.S, List.replicate 48 0, List.replicate 48 0⟩ := by
  simp only [ivM]
  congr 1
  · rw [show List.replicate 48 (0 : Int) = (List.range 48).map fun _ => 0 from by decide]; exact map48_congr fun i _ => by simp [ivN, ivB]
  · rw [show List.replicate 48 (0 : Int) = (List.range 48).map fun _ => 0 from by decide]; exact map48_congr fun i _ => by simp [ivO, ivB]
theorem zero98 (a b : Value) : ((Try.zeroCells29.setIfInBounds 0 a).setIfInBounds 1 b).toList = a :: b :: ((List.replicate 48 (0 : Int)) ++ (List.replicate 48 (0 : Int))).map (Value.int .u8) := by
  kernel_rfl
theorem ivM_start (m : Mch) : ((Try.zeroCells29.setIfInBounds 0 (.int .i64 m.L)).setIfInBounds 1 (.int .i64 m.S)).toList = (ivM m 0 0).cells := by
  rw [zero98, ivM_none]; rfl
theorem ivM_wf {m : Mch} (hok : m.Ok) (hwf : m.Wf) (q x : Nat) : (ivM m q x).Wf := by
  have h3 := hok.l_le
  refine ⟨by simp [ivM], by simp [ivM], fun i => ?_, fun i => ?_, hwf.lb, hwf.sb⟩
  · by_cases hi : i < 48
    · simp only [ivM, List.getElem?_map, List.getElem?_range hi, Option.map_some, Option.getD_some, ivN]
      split
      · exact hwf.nb _
      · omega
    · simp [ivM, hi]
  · by_cases hi : i < 48
    · simp only [ivM, List.getElem?_map, List.getElem?_range hi, Option.map_some, Option.getD_some, ivO]
      split
      · rename_i h
        simp only [ivB, Bool.and_eq_true, decide_eq_true_eq] at h
        have := (invX_spec hok hwf h.1.1 h.1.2).1
        omega
      · omega
    · simp [ivM, hi]
theorem ivH_wf {m : Mch} (hok : m.Ok) (hwf : m.Wf) (q x : Nat) : (ivH m q x).Wf := by
  have h1 := ivM_wf hok hwf q x
  have h2 := ivM_wf hok hwf q (x + 1)
  exact ⟨h1.nl, h2.ol, h1.nb, h2.ob, hwf.lb, hwf.sb⟩
theorem mach_ones (m : Mch) : ∀ v ∈ m.cells, v.oneCell' = true := fun v hv => by
  simp only [Mch.cells, List.mem_cons, List.mem_map] at hv
  rcases hv with rfl | rfl | ⟨z, _, rfl⟩ <;> rfl
theorem mach_infoT {m : Mch} (hwf : m.Wf) : (Try.prog.info? 29).map (·.size) = some m.cells.length := by rw [Mch.cells_length hwf]; kernel_rfl

theorem zero_len : Try.zeroCells29.toList.length = 98 := by kernel_rfl
theorem ivM_startA (m : Mch) : ((Try.zeroCells29.setIfInBounds 0 (.int .i64 m.L)).setIfInBounds 1 (.int .i64 m.S)) = (ivM m 0 0).cells.toArray := by
  rw [← ivM_start]
set_option maxRecDepth 100000 in
set_option maxHeartbeats 4000000 in
theorem l01Inverse_any (m : Mch) (hwf : m.Wf) (hok : m.Ok) (w : World) :
    Calls Try.prog 88 #[.agg m.cells.toArray] w (Ret (.agg (invM m).cells.toArray) w) := by
  have h3 := hok.l_le
  have h16 := hok.s_le
  have hl : m.cells[0]? = some (.int .i64 m.L) := rfl
  have hs : m.cells[1]? = some (.int .i64 m.S) := rfl
  have hM0 := (((Mm.start w).alloc m.cells.toArray 29).alloc Try.zeroCells29 29).alloc Try.zeroCells29 29
  rw [show (w.alloc (.cells m.cells.toArray 29)).heap.size = w.heap.size + 1 by simp, show ((w.alloc (.cells m.cells.toArray 29)).alloc (.cells Try.zeroCells29 29)).heap.size = w.heap.size + 1 + 1 by simp] at hM0
  have hw0 := ivM_wf hok hwf 0 0
  have ht := (hM0.at 0 rfl).there 0 (ivM m 0 0).cells.length (by simp only; rw [zero_len, Mch.cells_length hw0]; omega)
  have hM1 := hM0.setAll 0 rfl (vs := (ivM m 0 0).cells) (by rw [zero_len, Mch.cells_length hw0])
  simp only [List.set_cons_zero] at hM1
  have HM1 := Lib.hid hM1
  have HI := Lib.hid (mach_infoT hw0)
  have H1 := Lib.hid (mach_ones (ivM m 0 0))
  have HS := Lib.hid (ivM_startA m)
  clear hM0 hM1 hw0
  go_enter Try.func88, Try.ntmps88
  go_wp2_with ((with_reducible refine st_row ?_ 29 (.tmp 3) (.tmp 11) ?_ (w.heap.size + 1 + 1) 0 (ivM m 0 0).cells ?_ ?_ ht HI.out H1.out ?_); exact rfl; exact rfl; exact rfl; (rw [← HS.out]; exact rfl))
  clear ht
  go_loopw [4] (fun i wr => ∃ q : Nat, q ≤ m.s ∧ i = .int .i64 q ∧ Mm w.heap.size w wr [(w.heap.size + 1 + 1, (ivM m q 0).cells, 29), (w.heap.size + 1, Try.zeroCells29.toList, 29), (w.heap.size, m.cells, 29)] []) (fun i _ => m.s - (intOf i).toNat)
  case atStart => exact ⟨0, Nat.zero_le _, rfl, HM1.out⟩
  case round =>
    clear HM1 HI H1 HS hl hs
    obtain ⟨q, hq, rfl, hM⟩ := hrel
    have cs := (hM.mach 2 rfl).s
    rw [hok.S_eq] at cs
    by_cases hlt : q < m.s
    · have i1 : (0 : Int) ≤ (q : Int) := by omega
      have i2 : (q : Int) < 16 := by omega
      have i3 : (q : Int) < (m.s : Int) := by omega
      go_wp2_with fail
      clear cs
      obtain ⟨wo, rfl⟩ : ∃ wo : World, wo = wr := ⟨_, rfl⟩
      go_loopw [5] (fun i wr => ∃ x : Nat, x ≤ m.l ∧ i = .int .i64 x ∧ Mm w.heap.size w wr [(w.heap.size + 1 + 1, (ivM m q x).cells, 29), (w.heap.size + 1, Try.zeroCells29.toList, 29), (w.heap.size, m.cells, 29)] []) (fun i _ => m.l - (intOf i).toNat)
      case atStart => exact ⟨0, Nat.zero_le _, rfl, hM⟩
      case round =>
        clear hM
        obtain ⟨x, hx, rfl, hM⟩ := hrel
        have cl := (hM.mach 2 rfl).l
        rw [hok.L_eq] at cl
        by_cases hxl : x < m.l
        · have hmm := hM.mach 2 rfl
          have co := hmm.oo hwf (q := q) (x := x) (by omega) (by omega)
          have cn := hmm.nn hwf (q := q) (x := x) (by omega) (by omega)
          rw [hok.o_eq hwf hlt hxl] at co
          rw [hok.n_eq hwf hlt hxl] at cn
          have hy := hok.on_lt hwf hlt hxl
          have hz := hok.nn_lt hwf hlt hxl
          have hw1 := ivM_wf hok hwf q x
          have hw2 := ivH_wf hok hwf q x
          have d1 := (hM.mach 0 rfl).oo hw1 (q := q) (x := m.on q x) (by omega) (by omega)
          have f1 := (hM.at 0 rfl).free (50 + q * 3 + m.on q x)
          have hM2 := hM.setCell 0 rfl (50 + q * 3 + m.on q x) (.int .u8 (x : Int))
          rw [ivO_step hok hwf hlt hxl] at hM2
          simp only [List.set_cons_zero] at hM2
          have HM2 := Lib.hid hM2.drew
          have HSTEP : Hid (∀ W, Mm w.heap.size w W [(w.heap.size + 1 + 1, (ivH m q x).cells, 29), (w.heap.size + 1, Try.zeroCells29.toList, 29), (w.heap.size, m.cells, 29)] [] → Mm w.heap.size w (W.setCell ⟨w.heap.size + 1 + 1, 2 + q * 3 + m.on q x, none⟩ (.int .u8 (m.nn q x : Int))) [(w.heap.size + 1 + 1, (ivM m q (x + 1)).cells, 29), (w.heap.size + 1, Try.zeroCells29.toList, 29), (w.heap.size, m.cells, 29)] []) := fun W h => by
            have := h.setCell 0 rfl (2 + q * 3 + m.on q x) (.int .u8 (m.nn q x : Int))
            rw [ivN_step hok hwf hlt hxl] at this
            simpa only [List.set_cons_zero] using this
          have j1 : (0 : Int) ≤ (x : Int) := by omega
          have j2 : (x : Int) < 3 := by omega
          have j3 : (0 : Int) ≤ (m.on q x : Int) := by omega
          have j4 : (m.on q x : Int) < 3 := by omega
          have j5 : (m.nn q x : Int) < 16 := by omega
          have j6 : (0 : Int) ≤ (m.nn q x : Int) := by omega
          obtain ⟨wa, hwa⟩ : ∃ wa, wa = wr.setCell ⟨w.heap.size + 1 + 1, 50 + q * 3 + m.on q x, none⟩ (.int .u8 (x : Int)) := ⟨_, rfl⟩
          rw [← hwa] at HM2
          have e1 := (HM2.out.mach 2 rfl).nn hwf (q := q) (x := x) (by omega) (by omega)
          rw [hok.n_eq hwf hlt hxl] at e1
          have e2 := (HM2.out.mach 0 rfl).nn hw2 (q := q) (x := m.on q x) (by omega) (by omega)
          have e3 := (HM2.out.at 0 rfl).free (2 + q * 3 + m.on q x)
          have HS2 := Lib.hid (HSTEP.out _ HM2.out)
          have HWA := Lib.hid hwa
          clear hM2 hmm hw1 hM hwa HM2 HSTEP hw2
          generalize m.on q x = Y at *
          generalize m.nn q x = Z at *
          go_wp2_with fail
          rw [← HWA.out]
          go_still_tail 11, (by kernel_rfl)
          change wpList _ _ _ _ _ wa.drew
          generalize wa.drew = wb at *
          clear HWA
          go_wp2_with fail
          go_roundw
          case rel => exact ⟨x + 1, by omega, by go_num, HS2.out⟩
          case measure => simp [intOf]; omega
        · have hx' : x = m.l := by omega
          subst hx'
          rw [ivM_row hok hwf hlt] at hM
          go_wp2_with fail
          go_roundw
          case rel => exact ⟨q + 1, by omega, by go_num, hM⟩
          case measure => simp [intOf]; omega
    · have hq' : q = m.s := by omega
      subst hq'
      rw [ivM_all] at hM
      have hw1 := invM_wf hok hwf
      have hm1 := hM.mach 0 rfl
      have ht := (hM.at 1 rfl).there 0 (invM m).cells.length (by simp only; rw [zero_len, Mch.cells_length hw1]; omega)
      have HI := Lib.hid (mach_infoT hw1)
      have H1 := Lib.hid (mach_ones (invM m))
      have hM2 := hM.setAll 1 rfl (vs := (invM m).cells) (by rw [zero_len, Mch.cells_length hw1])
      have HB := Lib.hid (hM2.at 1 rfl)
      have HM2 := Lib.hid hM2
      have HI5 : Hid ((Try.prog.info? 29).map (·.size) = some (invM m).cells.toArray.size) := HI.out.trans (by rw [List.size_toArray])
      clear hM2
      go_wp2_with (first | ((with_reducible refine st_row ?_ 29 (.tmp 2) (.tmp 48) ?_ (w.heap.size + 1) 0 (invM m).cells ?_ ?_ ht HI.out H1.out ?_); exact rfl; exact rfl; exact rfl; exact rfl) | ((with_reducible refine ld_mach ?_ (.tmp 3) ?_ (w.heap.size + 1 + 1) 0 ?_ (invM m) hm1 hw1 ?_); exact rfl; exact rfl; exact rfl))
      exact bodyPost_ret (v := .agg (invM m).cells.toArray) (results_cell_row Try.results88 _ _ (w.heap.size + 1) 29 (invM m).cells.toArray (0, 0) (.struct _) rfl HB.out Try.underlying29 rfl HI5.out) rfl ⟨rfl, HM2.out.below⟩

set_option maxRecDepth 100000 in
set_option maxHeartbeats 4000000 in
theorem inverse_any (b o : Nat) (m : Mch) (hwf : m.Wf) (hok : m.Ok) (w : World) (hm : MAt w b o m) :
    Calls Try.prog 105 #[.pointer (some ⟨b, o, none⟩)] w (Ret (.agg (invM m).cells.toArray) w) := by
  have h3 := hok.l_le
  have h16 := hok.s_le
  have hbw : b < w.heap.size := World.block_lt_of_cell? w _ hm.l
  have HS : Hid (∀ W, Below w.heap.size w W → W.cell? ⟨b, o, none⟩ = some (.int .i64 m.L) ∧ W.cell? ⟨b, o + 1, none⟩ = some (.int .i64 m.S)) := fun W hW => ⟨(hm.below hW hbw).l, (hm.below hW hbw).s⟩
  have hM0 := ((Mm.start w).alloc Try.zeroCells29 29)
  have HM0 := Lib.hid hM0
  have hw0 := ivM_wf hok hwf 0 0
  have HI := Lib.hid (mach_infoT hw0)
  have H1 := Lib.hid (mach_ones (ivM m 0 0))
  have HST := Lib.hid (ivM_startA m)
  have hmx : Try.prog.follows .mixedOrders = true := by kernel_rfl
  have HMX := Lib.hid hmx
  have hlen := Mch.cells_length hw0
  have HLEN := Lib.hid hlen
  clear hM0 hmx hlen
  go_enter Try.func105, Try.ntmps105
  go_wp2_with fail
  refine region_S (fun W => W.cell? ⟨b, o, none⟩ = some (.int .i64 m.L) ∧ W.cell? ⟨b, o + 1, none⟩ = some (.int .i64 m.S)) [] 11 rfl HMX.out (HS.out _ HM0.out.below.drew) (fun hU => ?_)
  have HMa := Lib.hid HM0.out.drew
  obtain ⟨wa, hwa⟩ : ∃ wa, wa = (w.alloc (.cells Try.zeroCells29 29)).drew := ⟨_, rfl⟩
  have hsz : wa.heap.size = w.heap.size + 1 := by rw [hwa]; show (w.alloc _).heap.size = _; simp
  rw [← hwa] at hU HMa ⊢
  have HSZ := Lib.hid hsz
  clear hwa HM0 hsz
  (refine AnyS.take (i := 0) rfl (by kernel_rfl) (by kernel_rfl) (by kernel_rfl) (by rfl) (fun _ _ _ h => h) (by rfl) (by intro w; go_simp; with_reducible rfl) hU (fun hU => ?_); (try simp only [Act.put, List.setIfInBounds_toArray, List.set_cons_zero, List.set_cons_succ]); refine AnyS.take (i := 1) rfl (by kernel_rfl) (by kernel_rfl) (by kernel_rfl) (by rfl) (fun _ _ _ h => h) (by rfl) (by intro w; go_simp; with_reducible rfl) hU (fun hU => ?_); (try simp only [Act.put, List.setIfInBounds_toArray, List.set_cons_zero, List.set_cons_succ]); refine AnyS.take (i := 2) rfl (by kernel_rfl) (by kernel_rfl) (by kernel_rfl) (by rfl) (fun _ _ _ h => h) (by rfl) (by intro w; go_simp; with_reducible rfl) hU (fun hU => ?_); (try simp only [Act.put, List.setIfInBounds_toArray, List.set_cons_zero, List.set_cons_succ]))
  (refine AnyS.takeS (i := 3) rfl (by kernel_rfl) (by kernel_rfl) (by kernel_rfl) (by rfl) (by kernel_rfl) (by kernel_rfl) (fun _ _ _ h => h) (by rfl) (by intro W hSw; have h1 := hSw.1; clear hSw; go_simp; with_reducible rfl) hU (fun hU => ?_); (try simp only [Act.put, List.setIfInBounds_toArray, List.set_cons_zero, List.set_cons_succ]))
  (refine AnyS.take (i := 4) rfl (by kernel_rfl) (by kernel_rfl) (by kernel_rfl) (by rfl) (fun _ _ _ h => h) (by rfl) (by intro w; go_simp; with_reducible rfl) hU (fun hU => ?_); (try simp only [Act.put, List.setIfInBounds_toArray, List.set_cons_zero, List.set_cons_succ]); refine AnyS.take (i := 5) rfl (by kernel_rfl) (by kernel_rfl) (by kernel_rfl) (by rfl) (fun _ _ _ h => h) (by rfl) (by intro w; go_simp; with_reducible rfl) hU (fun hU => ?_); (try simp only [Act.put, List.setIfInBounds_toArray, List.set_cons_zero, List.set_cons_succ]); refine AnyS.take (i := 6) rfl (by kernel_rfl) (by kernel_rfl) (by kernel_rfl) (by rfl) (fun _ _ _ h => h) (by rfl) (by intro w; go_simp; with_reducible rfl) hU (fun hU => ?_); (try simp only [Act.put, List.setIfInBounds_toArray, List.set_cons_zero, List.set_cons_succ]))
  (refine AnyS.takeS (i := 7) rfl (by kernel_rfl) (by kernel_rfl) (by kernel_rfl) (by rfl) (by kernel_rfl) (by kernel_rfl) (fun _ _ _ h => h) (by rfl) (by intro W hSw; have h1 := hSw.2; clear hSw; go_simp; with_reducible rfl) hU (fun hU => ?_); (try simp only [Act.put, List.setIfInBounds_toArray, List.set_cons_zero, List.set_cons_succ]))
  (refine AnyS.take (i := 8) rfl (by kernel_rfl) (by kernel_rfl) (by kernel_rfl) (by rfl) (fun _ _ _ h => h) (by rfl) (by intro w; go_simp; with_reducible rfl) hU (fun hU => ?_); (try simp only [Act.put, List.setIfInBounds_toArray, List.set_cons_zero, List.set_cons_succ]))
  refine AnyS.branch (rs := [9]) (by kernel_rfl) (by simp) (AllS.cons rfl (fun K hK => ?_) AllS.nil)
  go_simp
  rw [HSZ.out]
  have hM1 := HMa.out.alloc Try.zeroCells29 29
  rw [HSZ.out] at hM1
  have ht := (hM1.at 0 rfl).there 0 (ivM m 0 0).cells.length (by simp only; rw [zero_len, HLEN.out]; omega)
  have hM2 := hM1.setAll 0 rfl (vs := (ivM m 0 0).cells) (by rw [zero_len, HLEN.out])
  simp only [List.set_cons_zero] at hM2
  have HM2 := Lib.hid hM2
  refine hK.out _ _ (.inl (HS.out _ hM1.below)) (fun hU => ?_)
  clear hK K
  (try simp only [Act.put, List.setIfInBounds_toArray, List.set_cons_zero, List.set_cons_succ])
  refine AnyS.branch (rs := [10]) (by kernel_rfl) (by simp) (AllS.cons rfl (fun K hK => ?_) AllS.nil)
  rw [if_pos (by kernel_rfl)]
  refine wp_store_mid 29 (.tmp 3) (.tmp 15) rfl (w.heap.size + 1) 0 (ivM m 0 0).cells.toArray rfl (by rw [← HST.out]; exact rfl) (by rw [List.size_toArray]; exact ht) (by rw [List.size_toArray]; exact HI.out) (all_oneCell_toArray H1.out) ?_
  refine hK.out _ _ (.inl (HS.out _ HM2.out.below)) (fun hU => ?_)
  clear hK K
  (try simp only [Act.put, List.setIfInBounds_toArray, List.set_cons_zero, List.set_cons_succ])
  refine AnyS.done (by kernel_rfl) ?_ _
  clear hU ht hM1 hM2
  generalize wa.alloc _ = wc at *
  have HM3 : Hid (Mm w.heap.size w (wc.setCells (w.heap.size + 1) 0 (ivM m 0 0).cells) [(w.heap.size + 1, (ivM m 0 0).cells, 29), (w.heap.size, Try.zeroCells29.toList, 29)] []) := HM2
  clear HM2
  have hs0 := (HS.out _ HM3.out.below).2
  rw [hok.S_eq] at hs0
  go_wp2_with fail
  go_loopw [20] (fun i wr => ∃ q : Nat, q ≤ m.s ∧ i = .int .i64 q ∧ Mm w.heap.size w wr [(w.heap.size + 1, (ivM m q 0).cells, 29), (w.heap.size, Try.zeroCells29.toList, 29)] []) (fun i _ => m.s - (intOf i).toNat)
  case atStart => exact ⟨0, Nat.zero_le _, rfl, HM3.out⟩
  case round =>
    clear HM3 HI H1 HST hs0
    obtain ⟨q, hq, rfl, hM⟩ := hrel
    by_cases hlt : q < m.s
    · have i1 : (0 : Int) ≤ (q : Int) := by omega
      have i2 : (q : Int) < 16 := by omega
      have i3 : (q : Int) < (m.s : Int) := by omega
      have cl := (HS.out _ hM.below).1
      rw [hok.L_eq] at cl
      go_wp2_with fail
      clear cl
      obtain ⟨wo, rfl⟩ : ∃ wo : World, wo = wr := ⟨_, rfl⟩
      go_loopw [27] (fun i wr => ∃ x : Nat, x ≤ m.l ∧ i = .int .i64 x ∧ Mm w.heap.size w wr [(w.heap.size + 1, (ivM m q x).cells, 29), (w.heap.size, Try.zeroCells29.toList, 29)] []) (fun i _ => m.l - (intOf i).toNat)
      case atStart => exact ⟨0, Nat.zero_le _, rfl, hM⟩
      case round =>
        clear hM
        obtain ⟨x, hx, rfl, hM⟩ := hrel
        by_cases hxl : x < m.l
        · have j1 : (0 : Int) ≤ (x : Int) := by omega
          have j2 : (x : Int) < 3 := by omega
          have j7 : (x : Int) < (m.l : Int) := by omega
          have HMW : Hid (MAt wr b o m) := hm.below hM.below hbw
          have HOUT : Hid (∀ W, MAt W b o m → Calls Try.prog 133 #[.pointer (some ⟨b, o, none⟩), .int .i64 q, .int .i64 x] W fun e w' => e = .returned (.int .i64 (m.on q x : Int)) ∧ W = w') := fun W hW => by
            have := out_any b o m hwf q x (by omega) (by omega) W hW
            rwa [Int.toNat_natCast, Int.toNat_natCast, hok.o_eq hwf hlt hxl] at this
          go_wp2_with fail
          refine (HOUT.out _ HMW.out).mono ?_
          rintro e w' ⟨rfl, rfl⟩
          have hy := hok.on_lt hwf hlt hxl
          have hz := hok.nn_lt hwf hlt hxl
          have hw1 := ivM_wf hok hwf q x
          have hw2 := ivH_wf hok hwf q x
          have hMd := hM.drew
          have d1 := (hMd.mach 0 rfl).oo hw1 (q := q) (x := m.on q x) (by omega) (by omega)
          have f1 := (hMd.at 0 rfl).free (50 + q * 3 + m.on q x)
          have hM2 := hMd.setCell 0 rfl (50 + q * 3 + m.on q x) (.int .u8 (x : Int))
          rw [ivO_step hok hwf hlt hxl] at hM2
          simp only [List.set_cons_zero] at hM2
          have HM2 := Lib.hid hM2
          have d2 := (hM2.mach 0 rfl).nn hw2 (q := q) (x := m.on q x) (by omega) (by omega)
          have f2 := (hM2.at 0 rfl).free (2 + q * 3 + m.on q x)
          have HD2 := Lib.hid d2
          have HF2 := Lib.hid f2
          have hM3 := hM2.setCell 0 rfl (2 + q * 3 + m.on q x) (.int .u8 (m.nn q x : Int))
          rw [ivN_step hok hwf hlt hxl] at hM3
          simp only [List.set_cons_zero] at hM3
          have HM3 := Lib.hid hM3
          have HSM : Hid (∀ W, Below w.heap.size w W → W.cell? ⟨b, o + 2 + q * 3 + x, none⟩ = some (.int .u8 (m.nn q x : Int))) := fun W hW => by
            have := (hm.below hW hbw).nn hwf (q := q) (x := x) (by omega) (by omega)
            rwa [hok.n_eq hwf hlt hxl] at this
          have j3 : (0 : Int) ≤ (m.on q x : Int) := by omega
          have j4 : (m.on q x : Int) < 3 := by omega
          have j5 : (m.nn q x : Int) < 16 := by omega
          have j6 : (0 : Int) ≤ (m.nn q x : Int) := by omega
          have HBL := Lib.hid hMd.below
          obtain ⟨W, hW⟩ : ∃ W, W = wr.drew := ⟨_, rfl⟩
          have HW := Lib.hid hW
          rw [← hW] at d1 f1 HM2 HD2 HF2 HM3 HBL
          clear hM2 hM3 hM hMd d2 f2 hw1 hw2 hW HOUT HMW
          generalize m.on q x = Y at *
          generalize m.nn q x = Z at *
          go_wp2_with fail
          refine region_S (fun W => W.cell? ⟨b, o + 2 + q * 3 + x, none⟩ = some (.int .u8 (Z : Int))) [] 22 rfl HMX.out (by rw [← HW.out]; exact HSM.out _ HBL.out) (fun hU => ?_)
          rw [← HW.out] at hU ⊢
          (refine AnyS.take (i := 0) rfl (by kernel_rfl) (by kernel_rfl) (by kernel_rfl) (by rfl) (fun _ _ _ h => h) (by rfl) (by intro w; go_simp; with_reducible rfl) hU (fun hU => ?_); (try simp only [Act.put, List.setIfInBounds_toArray, List.set_cons_zero, List.set_cons_succ]); refine AnyS.take (i := 1) rfl (by kernel_rfl) (by kernel_rfl) (by kernel_rfl) (by rfl) (fun _ _ _ h => h) (by rfl) (by intro w; go_simp; with_reducible rfl) hU (fun hU => ?_); (try simp only [Act.put, List.setIfInBounds_toArray, List.set_cons_zero, List.set_cons_succ]); refine AnyS.take (i := 2) rfl (by kernel_rfl) (by kernel_rfl) (by kernel_rfl) (by rfl) (fun _ _ _ h => h) (by rfl) (by intro w; go_simp; with_reducible rfl) hU (fun hU => ?_); (try simp only [Act.put, List.setIfInBounds_toArray, List.set_cons_zero, List.set_cons_succ]); refine AnyS.take (i := 3) rfl (by kernel_rfl) (by kernel_rfl) (by kernel_rfl) (by rfl) (fun _ _ _ h => h) (by rfl) (by intro w; go_simp; with_reducible rfl) hU (fun hU => ?_); (try simp only [Act.put, List.setIfInBounds_toArray, List.set_cons_zero, List.set_cons_succ]); refine AnyS.take (i := 4) rfl (by kernel_rfl) (by kernel_rfl) (by kernel_rfl) (by rfl) (fun _ _ _ h => h) (by rfl) (by intro w; go_simp; with_reducible rfl) hU (fun hU => ?_); (try simp only [Act.put, List.setIfInBounds_toArray, List.set_cons_zero, List.set_cons_succ]); refine AnyS.take (i := 5) rfl (by kernel_rfl) (by kernel_rfl) (by kernel_rfl) (by rfl) (fun _ _ _ h => h) (by rfl) (by intro w; go_simp; with_reducible rfl) hU (fun hU => ?_); (try simp only [Act.put, List.setIfInBounds_toArray, List.set_cons_zero, List.set_cons_succ]); refine AnyS.take (i := 6) rfl (by kernel_rfl) (by kernel_rfl) (by kernel_rfl) (by rfl) (fun _ _ _ h => h) (by rfl) (by intro w; go_simp; with_reducible rfl) hU (fun hU => ?_); (try simp only [Act.put, List.setIfInBounds_toArray, List.set_cons_zero, List.set_cons_succ]); refine AnyS.take (i := 7) rfl (by kernel_rfl) (by kernel_rfl) (by kernel_rfl) (by rfl) (fun _ _ _ h => h) (by rfl) (by intro w; go_simp; with_reducible rfl) hU (fun hU => ?_); (try simp only [Act.put, List.setIfInBounds_toArray, List.set_cons_zero, List.set_cons_succ]); refine AnyS.take (i := 8) rfl (by kernel_rfl) (by kernel_rfl) (by kernel_rfl) (by rfl) (fun _ _ _ h => h) (by rfl) (by intro w; go_simp; with_reducible rfl) hU (fun hU => ?_); (try simp only [Act.put, List.setIfInBounds_toArray, List.set_cons_zero, List.set_cons_succ]); refine AnyS.take (i := 9) rfl (by kernel_rfl) (by kernel_rfl) (by kernel_rfl) (by rfl) (fun _ _ _ h => h) (by rfl) (by intro w; go_simp; with_reducible rfl) hU (fun hU => ?_); (try simp only [Act.put, List.setIfInBounds_toArray, List.set_cons_zero, List.set_cons_succ]); refine AnyS.take (i := 10) rfl (by kernel_rfl) (by kernel_rfl) (by kernel_rfl) (by rfl) (fun _ _ _ h => h) (by rfl) (by intro w; go_simp; with_reducible rfl) hU (fun hU => ?_); (try simp only [Act.put, List.setIfInBounds_toArray, List.set_cons_zero, List.set_cons_succ]); refine AnyS.take (i := 11) rfl (by kernel_rfl) (by kernel_rfl) (by kernel_rfl) (by rfl) (fun _ _ _ h => h) (by rfl) (by intro w; go_simp; with_reducible rfl) hU (fun hU => ?_); (try simp only [Act.put, List.setIfInBounds_toArray, List.set_cons_zero, List.set_cons_succ]); refine AnyS.take (i := 12) rfl (by kernel_rfl) (by kernel_rfl) (by kernel_rfl) (by rfl) (fun _ _ _ h => h) (by rfl) (by intro w; go_simp; with_reducible rfl) hU (fun hU => ?_); (try simp only [Act.put, List.setIfInBounds_toArray, List.set_cons_zero, List.set_cons_succ]))
          rw [IntWalk.u8_in (x : Int) ⟨by omega, by omega⟩]
          (refine AnyS.takeS (i := 13) rfl (by kernel_rfl) (by kernel_rfl) (by kernel_rfl) (by rfl) (by kernel_rfl) (by kernel_rfl) (fun _ _ _ h => h) (by rfl) (by intro W hSw; go_simp; with_reducible rfl) hU (fun hU => ?_); (try simp only [Act.put, List.setIfInBounds_toArray, List.set_cons_zero, List.set_cons_succ]))
          (refine AnyS.take (i := 14) rfl (by kernel_rfl) (by kernel_rfl) (by kernel_rfl) (by rfl) (fun _ _ _ h => h) (by rfl) (by intro w; go_simp; with_reducible rfl) hU (fun hU => ?_); (try simp only [Act.put, List.setIfInBounds_toArray, List.set_cons_zero, List.set_cons_succ]); refine AnyS.take (i := 15) rfl (by kernel_rfl) (by kernel_rfl) (by kernel_rfl) (by rfl) (fun _ _ _ h => h) (by rfl) (by intro w; go_simp; with_reducible rfl) hU (fun hU => ?_); (try simp only [Act.put, List.setIfInBounds_toArray, List.set_cons_zero, List.set_cons_succ]); refine AnyS.take (i := 16) rfl (by kernel_rfl) (by kernel_rfl) (by kernel_rfl) (by rfl) (fun _ _ _ h => h) (by rfl) (by intro w; go_simp; with_reducible rfl) hU (fun hU => ?_); (try simp only [Act.put, List.setIfInBounds_toArray, List.set_cons_zero, List.set_cons_succ]); refine AnyS.take (i := 18) rfl (by kernel_rfl) (by kernel_rfl) (by kernel_rfl) (by rfl) (fun _ _ _ h => h) (by rfl) (by intro w; go_simp; with_reducible rfl) hU (fun hU => ?_); (try simp only [Act.put, List.setIfInBounds_toArray, List.set_cons_zero, List.set_cons_succ]); refine AnyS.take (i := 19) rfl (by kernel_rfl) (by kernel_rfl) (by kernel_rfl) (by rfl) (fun _ _ _ h => h) (by rfl) (by intro w; go_simp; with_reducible rfl) hU (fun hU => ?_); (try simp only [Act.put, List.setIfInBounds_toArray, List.set_cons_zero, List.set_cons_succ]))
          refine AnyS.branch (rs := [17]) (by kernel_rfl) (by simp) (AllS.cons rfl (fun K hK => ?_) AllS.nil)
          go_simp
          refine hK.out _ _ (.inl (HSM.out _ HM2.out.below)) (fun hU => ?_)
          clear hK K d1 f1
          (try simp only [Act.put, List.setIfInBounds_toArray, List.set_cons_zero, List.set_cons_succ])
          (refine AnyS.take (i := 20) rfl (by kernel_rfl) (by kernel_rfl) (by kernel_rfl) (by rfl) (fun _ _ _ h => h) (by rfl) (by intro w; go_simp; with_reducible rfl) hU (fun hU => ?_); (try simp only [Act.put, List.setIfInBounds_toArray, List.set_cons_zero, List.set_cons_succ]))
          refine AnyS.branch (rs := [21]) (by kernel_rfl) (by simp) (AllS.cons rfl (fun K hK => ?_) AllS.nil)
          have d2 := HD2.out
          have f2 := HF2.out
          go_simp
          refine hK.out _ _ (.inl (HSM.out _ HM3.out.below)) (fun hU => ?_)
          clear hK K d2 f2
          (try simp only [Act.put, List.setIfInBounds_toArray, List.set_cons_zero, List.set_cons_succ])
          refine AnyS.done (by kernel_rfl) ?_ _
          clear hU
          go_wp2_with fail
          go_roundw
          case rel => exact ⟨x + 1, by omega, by go_num, HM3.out⟩
          case measure => simp [intOf] <;> omega
        · have hx' : x = m.l := by omega
          subst hx'
          rw [ivM_row hok hwf hlt] at hM
          go_wp2_with fail
          go_roundw
          case rel => exact ⟨q + 1, by omega, by go_num, hM⟩
          case measure => simp [intOf]; omega
    · have hq' : q = m.s := by omega
      subst hq'
      rw [ivM_all] at hM
      have hw1 := invM_wf hok hwf
      have hm1 := hM.mach 0 rfl
      have ht := (hM.at 1 rfl).there 0 (invM m).cells.length (by simp only; rw [zero_len, Mch.cells_length hw1]; omega)
      have HI := Lib.hid (mach_infoT hw1)
      have H1 := Lib.hid (mach_ones (invM m))
      have hM2 := hM.setAll 1 rfl (vs := (invM m).cells) (by rw [zero_len, Mch.cells_length hw1])
      have HB := Lib.hid (hM2.at 1 rfl)
      have HM2 := Lib.hid hM2
      have HI5 : Hid ((Try.prog.info? 29).map (·.size) = some (invM m).cells.toArray.size) := HI.out.trans (by rw [List.size_toArray])
      clear hM2
      go_wp2_with (first | ((with_reducible refine st_row ?_ 29 (.tmp 2) (.tmp 56) ?_ w.heap.size 0 (invM m).cells ?_ ?_ ht HI.out H1.out ?_); exact rfl; exact rfl; exact rfl; exact rfl) | ((with_reducible refine ld_mach ?_ (.tmp 3) ?_ (w.heap.size + 1) 0 ?_ (invM m) hm1 hw1 ?_); exact rfl; exact rfl; exact rfl))
      exact bodyPost_ret (v := .agg (invM m).cells.toArray) (results_cell_row Try.results105 _ _ w.heap.size 29 (invM m).cells.toArray (0, 0) (.struct _) rfl HB.out Try.underlying29 rfl HI5.out) rfl ⟨rfl, HM2.out.below⟩
end Go.Proofs.Yteagecoiijhflaa

/- Words of a level and their numbers: no program in sight. -/
namespace Go.Proofs.Yteagecoiijhflaa
open Go.RowKit
set_option linter.unusedVariables false
set_option linter.unusedSimpArgs false

/-- the n digits of k, base d -/
def digs (d : Nat) : Nat → Nat → List Nat
  | 0, _ => []
  | n + 1, k => (k / d ^ n % d) :: digs d n k
theorem digs_length (d : Nat) : ∀ n k, (digs d n k).length = n
  | 0, _ => rfl
  | n + 1, k => by simp [digs, digs_length d n k]
theorem digs_lt {d : Nat} (hd : 0 < d) : ∀ n k, ∀ x ∈ digs d n k, x < d
  | 0, _, x, h => by simp [digs] at h
  | n + 1, k, x, h => by
    simp only [digs, List.mem_cons] at h
    rcases h with rfl | h
    · exact Nat.mod_lt _ hd
    · exact digs_lt hd n k x h
theorem digs_snoc (d : Nat) : ∀ n k, digs d (n + 1) k = digs d n (k / d) ++ [k % d]
  | 0, k => by simp [digs]
  | n + 1, k => by
    rw [digs, digs_snoc d n k, digs, List.cons_append]
    congr 2
    rw [Nat.div_div_eq_div_mul, Nat.pow_succ, Nat.mul_comm]
def numL (d : Nat) (l : List Nat) : Nat := l.foldl (fun a x => a * d + x) 0
theorem numL_snoc (d : Nat) (l : List Nat) (x : Nat) : numL d (l ++ [x]) = numL d l * d + x := by simp [numL]
theorem numL_digs (d : Nat) : ∀ n k, numL d (digs d n k) = k % d ^ n
  | 0, k => by simp [digs, numL, Nat.mod_one]
  | n + 1, k => by
    rw [digs_snoc, numL_snoc, numL_digs d n, Nat.pow_succ, Nat.mul_comm (d ^ n) d, Nat.mod_mul]
    rw [Nat.mul_comm]; omega
theorem numL_lt {d : Nat} : ∀ (l : List Nat), (∀ x ∈ l, x < d) → numL d l < d ^ l.length := by
  intro l
  induction hn : l.length generalizing l with
  | zero => intro _; have : l = [] := List.length_eq_zero_iff.1 hn; subst this; simp [numL]
  | succ n ih =>
    intro h
    obtain ⟨r, x, rfl⟩ : ∃ r x, l = r ++ [x] := ⟨l.dropLast, l.getLast (by intro e; simp [e] at hn), (List.dropLast_concat_getLast _).symm⟩
    have hr : r.length = n := by simpa using hn
    have h1 := ih r hr (fun y hy => h y (by simp [hy]))
    have h2 := h x (by simp)
    rw [numL_snoc, Nat.pow_succ]
    have : numL d r + 1 ≤ d ^ n := h1
    calc numL d r * d + x < numL d r * d + d := by omega
      _ = (numL d r + 1) * d := by rw [Nat.add_mul, Nat.one_mul]
      _ ≤ d ^ n * d := Nat.mul_le_mul_right d this

theorem txt_size (l : List Nat) : (txt l).size = l.length := by simp [txt, strOfNums_size]
theorem txt_data (l : List Nat) : (txt l).data.toList = l.map fun x => UInt8.ofNat (48 + x) := by
  simp only [txt, strOfNums_data, List.map_map]
  apply List.map_congr_left
  intro x _
  simp only [Function.comp, Int.toNat_natCast]
theorem lts_txt {l : List Nat} (h : ∀ x ∈ l, x ≤ 200) : lts (txt l) = l := by
  simp only [lts, txt_data, List.map_map]
  conv => rhs; rw [← List.map_id l]
  apply List.map_congr_left
  intro x hx
  have := h x hx
  simp only [Function.comp, id, UInt8.toNat_ofNat']
  omega
theorem letsP_txt {L : Int} {l : List Nat} (h : ∀ x ∈ l, (x : Int) < L) (hl : ∀ x ∈ l, x ≤ 200) : letsP L (txt l) = true := by
  simp only [letsP, letsUpto, List.all_eq_true, List.mem_range]
  intro k hk
  rw [getElem!_pos (txt l) k hk]
  have hk' : k < l.length := by rwa [txt_size] at hk
  have e : (txt l)[k] = UInt8.ofNat (48 + l[k]) := by
    have h1 : (txt l).data.toList[k]? = some (UInt8.ofNat (48 + l[k])) := by rw [txt_data]; simp [hk']
    have h2 : (txt l).data.toList[k]? = some (txt l)[k] := by
      rw [List.getElem?_eq_getElem (by simpa using hk)]; rfl
    exact Option.some.inj (h2.symm.trans h1)
  have hx := h l[k] (List.getElem_mem hk')
  have hx2 := hl l[k] (List.getElem_mem hk')
  rw [e, UInt8.toNat_ofNat']
  simp only [letB, Bool.and_eq_true, decide_eq_true_eq]
  omega

/-- the code of a machine and a level -/
def levC (m : Mch) (n : Int) : Int := if machP m then (if inR n 0 (7 - m.L) then 0 else 2) else 1
theorem levC_range (m : Mch) (n : Int) : 0 ≤ levC m n ∧ levC m n ≤ 2 := by unfold levC; split <;> (try split) <;> omega
theorem levC_zero {m : Mch} {n : Int} (h : levC m n = 0) : m.Ok ∧ ∃ j : Nat, n = j ∧ j + m.l ≤ 7 ∧ j ≤ 5 := by
  unfold levC at h
  split at h
  · rename_i h1
    split at h
    · rename_i h2
      have hok := mach_ok h1
      simp only [inR, Bool.and_eq_true, decide_eq_true_eq] at h2
      have := hok.L_eq
      have := hok.l_ge
      exact ⟨hok, n.toNat, by omega, by omega, by omega⟩
    · omega
  · omega
theorem pow_level {d j : Nat} (h2 : 2 ≤ d) (h3 : d ≤ 3) (hj : j + d ≤ 7) : d ^ j ≤ 81 := by
  have : d = 2 ∨ d = 3 := by omega
  rcases this with rfl | rfl
  · have : j = 0 ∨ j = 1 ∨ j = 2 ∨ j = 3 ∨ j = 4 ∨ j = 5 := by omega
    rcases this with rfl | rfl | rfl | rfl | rfl | rfl <;> decide
  · have : j = 0 ∨ j = 1 ∨ j = 2 ∨ j = 3 ∨ j = 4 := by omega
    rcases this with rfl | rfl | rfl | rfl | rfl <;> decide
/-- where word k of a level leads a state, and what it becomes -/
def wsec (m : Mch) (n q k : Nat) : Nat := (runL m q (digs m.l n k)).2
def wimg (m : Mch) (n q k : Nat) : List Nat := (runL m q (digs m.l n k)).1
theorem digs_ok {m : Mch} (hok : m.Ok) (n k : Nat) : ∀ x ∈ digs m.l n k, x < m.l := digs_lt (by have := hok.l_ge; omega) n k
theorem wsec_lt {m : Mch} (hok : m.Ok) (hwf : m.Wf) {q : Nat} (hq : q < m.s) (n k : Nat) : wsec m n q k < m.s := runL_state hok hwf _ q hq (digs_ok hok n k)
theorem wimg_lt {m : Mch} (hok : m.Ok) (hwf : m.Wf) {q : Nat} (hq : q < m.s) (n k : Nat) : ∀ x ∈ wimg m n q k, x < m.l := runL_letters hok hwf _ q hq (digs_ok hok n k)
theorem wimg_length (m : Mch) (n q k : Nat) : (wimg m n q k).length = n := by rw [wimg, runL_length, digs_length]
theorem word_lets {m : Mch} (hok : m.Ok) (n k : Nat) : letsP m.L (txt (digs m.l n k)) = true := by
  have h3 := hok.l_le
  exact letsP_txt (fun x hx => by have := digs_ok hok n k x hx; have := hok.L_eq; omega) (fun x hx => by have := digs_ok hok n k x hx; omega)
theorem word_lts {m : Mch} (hok : m.Ok) (n k : Nat) : lts (txt (digs m.l n k)) = digs m.l n k := by
  have h3 := hok.l_le
  exact lts_txt (fun x hx => by have := digs_ok hok n k x hx; omega)
end Go.Proofs.Yteagecoiijhflaa

/- codeOf, lead. -/
namespace Go.Proofs.Yteagecoiijhflaa
open Go.RowKit
set_option linter.unusedVariables false
set_option linter.unusedSimpArgs false

def codesP (m : Mch) (qs : List Int) (s : ByteArray) : Int := if machP m && wordP m.L s then (if qs.any (fun q => !inR q 0 (m.S - 1)) then 2 else 0) else 1
theorem codesP_one (m : Mch) (q : Int) (s : ByteArray) : codesP m [q] s = codeP m q s := by
  simp only [codesP, codeP, List.any_cons, List.any_nil, Bool.or_false]
  cases inR q 0 (m.S - 1) <;> rfl

end Go.Proofs.Yteagecoiijhflaa

/- lead: what a state makes of a word, and its section there. -/
namespace Go.Proofs.Yteagecoiijhflaa
open Go.RowKit
set_option linter.unusedVariables false
set_option linter.unusedSimpArgs false

/-- 'make([]byte, n)' -/
theorem mk_u8 (n : Nat) (hn : n ≤ 100000) (u : World) : (Instr.makeSlice 106 (.int .i64 (n : Int)) (.int .i64 (n : Int))).run Try.prog u =
    .ok (.slice (some ⟨u.heap.size, 0, none⟩) n n) (u.alloc (.cells (madeCells #[.int .u8 0] n) 5)) := by
  obtain ⟨i0, hi, hz0, hz1, hz2⟩ := info_parts Try.info5
  have h := run_make (P := Try.prog) u 106 5 i0 (.int .u8 0) Try.underlying106 hi hz0 .i64 .i64 (n : Int) (n : Int) (by omega) (Int.le_refl _) (by rw [hz2]; omega) (by omega)
  simpa [hz1, Value.cells] using h
theorem made_u8 (n : Nat) : (madeCells #[Value.int .u8 0] n).toList = u8s (List.replicate n 0) := by
  have : (madeCells #[Value.int .u8 0] n).toList = (List.range n).map fun _ => Value.int .u8 0 := by
    simp only [madeCells, Array.toList_map, Array.toList_range]
    exact List.map_congr_left fun x _ => by simp [Nat.mod_one]
  rw [this, u8s, List.map_const', List.length_range, List.map_replicate]

def outsZ (m : Mch) (q : Nat) (s : ByteArray) (k : Nat) : List Int := outsP m q s k ++ List.replicate (s.size - k) 0
theorem outsZ_step {m : Mch} {q : Nat} {s : ByteArray} {k : Nat} (hk : k < s.size) {x : Nat} (hx : (s[k]).toNat - 48 = x) :
    (u8s (outsZ m q s k)).set k (.int .u8 ((48 + m.on (secP m q s k) x : Nat) : Int)) = u8s (outsZ m q s (k + 1)) := by
  have hl : (outsP m q s k).length = k := outsP_length (by omega)
  simp only [outsZ, u8s, outsP_succ hk, hx, List.map_append]
  rw [List.set_append_right _ _ (by simp [hl]), List.append_assoc]
  congr 1
  rw [show s.size - k = (s.size - (k + 1)) + 1 by omega, List.replicate_succ]
  simp [hl]

end Go.Proofs.Yteagecoiijhflaa

/- Powers, words of a level, their numbers: contracts of both sides. -/
namespace Go.Proofs.Yteagecoiijhflaa
open Go.RowKit
set_option linter.unusedVariables false
set_option linter.unusedSimpArgs false

theorem pow30 {d k : Nat} (hd : d ≤ 3) (hk : k ≤ 30) : d ^ k ≤ 205891132094649 :=
  calc d ^ k ≤ 3 ^ k := Nat.pow_le_pow_left hd k
    _ ≤ 3 ^ 30 := Nat.pow_le_pow_right (by omega) hk
    _ = 205891132094649 := by decide
theorem pow_cast (d k : Nat) : ((d ^ k : Nat) : Int) * (d : Int) = ((d ^ (k + 1) : Nat) : Int) := by rw [Nat.pow_succ]; push_cast; rfl

/-! words -/
def lowZ (d n j k : Nat) : List Int := List.replicate (n - j) 0 ++ (digs d j k).map fun x : Nat => ((48 + x : Nat) : Int)
theorem lowZ_length (d n j k : Nat) (h : j ≤ n) : (lowZ d n j k).length = n := by simp [lowZ, digs_length]; omega
theorem lowZ_step (d n j k : Nat) (h : j < n) : (u8s (lowZ d n j k)).set (n - 1 - j) (.int .u8 ((48 + k / d ^ j % d : Nat) : Int)) = u8s (lowZ d n (j + 1) k) := by
  simp only [lowZ, u8s, List.map_append, digs, List.map_cons]
  rw [show n - j = (n - (j + 1)) + 1 by omega, List.replicate_succ', List.map_append, List.append_assoc]
  rw [List.set_append_right _ _ (by simp; omega)]
  congr 1
  simp only [List.length_map, List.length_replicate, List.map_cons, List.map_nil, List.cons_append, List.nil_append]
  rw [show n - 1 - j - (n - (j + 1)) = 0 by omega, List.set_cons_zero]
theorem lowZ_all (d n k : Nat) : strOfNums (lowZ d n n k) = txt (digs d n k) := by simp [lowZ, txt]

theorem divC (a b : Nat) : ((a : Int) / (b : Int)) = ((a / b : Nat) : Int) := by simp
theorem modC (a b : Nat) : ((a : Int) % (b : Int)) = ((a % b : Nat) : Int) := by simp

theorem ret_str {a b : ByteArray} (h : a = b) : Ending.returned (.string a) = .returned (.string b) := by rw [h]
theorem txt_snoc (l : List Nat) (x : Nat) : txt (l ++ [x]) = txt l ++ strOfNums [48 + (x : Int)] := by
  have : (txt (l ++ [x])).data.toList = (txt l ++ strOfNums [48 + (x : Int)]).data.toList := by
    rw [ByteArray.data_append]
    simp only [Array.toList_append, txt_data, strOfNums_data, List.map_append, List.map_cons, List.map_nil]
    congr 2
  exact ByteArray.ext (Array.toList_inj.1 this)

end Go.Proofs.Yteagecoiijhflaa

/- Levels; numbers of words; codes of levels: contracts of both sides. -/
namespace Go.Proofs.Yteagecoiijhflaa
open Go.RowKit
set_option linter.unusedVariables false
set_option linter.unusedSimpArgs false

theorem Try.info9 : (Try.prog.info? 9).map (fun i => (i.zero, i.size, i.bytes)) = some (some (.string ⟨#[]⟩), 1, 16) := by kernel_rfl

def strs (d n k : Nat) : List Value := (List.range k).map fun i => .string (txt (digs d n i))
theorem strs_length (d n k : Nat) : (strs d n k).length = k := by simp [strs]
theorem strs_succ (d n k : Nat) : strs d n (k + 1) = strs d n k ++ [.string (txt (digs d n k))] := by simp [strs, List.range_succ]
theorem strs_get {d n k i : Nat} (h : i < k) : (strs d n k)[i]? = some (.string (txt (digs d n i))) := by simp [strs, h]

theorem numL_step {d : Nat} {s : ByteArray} {k : Nat} (hk : k < s.size) : numL d ((lts s).take (k + 1)) = numL d ((lts s).take k) * d + ((s[k]).toNat - 48) := by
  rw [lts_take_succ hk, numL_snoc]
theorem numL_bound {L : Int} {d : Nat} (hd : d ≤ 3) (hL : L = d) {s : ByteArray} (hs : letsP L s = true) (h30 : s.size ≤ 29) (k : Nat) (hk : k ≤ s.size) : numL d ((lts s).take k) ≤ 205891132094649 := by
  have h1 : ∀ x ∈ (lts s).take k, x < d := fun x hx => by
    have hx' := List.mem_of_mem_take hx
    obtain ⟨j, hj⟩ := List.mem_iff_getElem?.1 hx'
    have hlt : j < s.size := by have := (List.getElem?_eq_some_iff.1 hj).1; rwa [lts_length] at this
    rw [lts_get hlt] at hj
    have := lets_at hs hlt
    have := Option.some.inj hj
    omega
  have h2 := numL_lt _ h1
  have h3 : ((lts s).take k).length = k := by rw [List.length_take, lts_length]; omega
  rw [h3] at h2
  have := pow30 (k := k) hd (by omega)
  omega

end Go.Proofs.Yteagecoiijhflaa
