import Derived.Test.YteagecoiijhflaaZLOrderOf19
import Derived.Test.YteagecoiijhflaaZLOrderOf07
/- OrdersOfStates of both sides. -/
namespace Go.Proofs.Yteagecoiijhflaa
open Go.RowKit
set_option linter.unusedVariables false
set_option linter.unusedSimpArgs false

/-- the orders of the first states, or the error -/
def oosR (m : Mch) : Nat → Except Int (List Int)
  | 0 => .ok []
  | i + 1 => match oosR m i with
    | .error c => .error c
    | .ok xs => if resC (ordW m [(i : Int) + 1]) = 0 then .ok (xs ++ [(resN (ordW m [(i : Int) + 1]) : Int)]) else .error (resC (ordW m [(i : Int) + 1]) : Int)
def oosI (m : Mch) : List Int × Int := match machP m with
  | false => ([], 1)
  | true => match oosR m m.s with
    | .error c => ([], c)
    | .ok xs => (xs, 0)
theorem oosR_len (m : Mch) : ∀ (i : Nat) (xs : List Int), oosR m i = .ok xs → xs.length = i
  | 0, xs, h => by simp only [oosR] at h; injection h with h; subst h; rfl
  | i + 1, xs, h => by
    simp only [oosR] at h
    split at h
    · cases h
    · rename_i ys hy
      split at h
      · injection h with h; subst h; simp [oosR_len m i ys hy]
      · cases h
theorem oosR_err {m : Mch} {c : Int} {i : Nat} (h : oosR m i = .error c) : ∀ j, i ≤ j → oosR m j = .error c
  | 0, hj => by obtain rfl : i = 0 := by omega
                exact h
  | j + 1, hj => by
    by_cases e : i = j + 1
    · subst e; exact h
    · rw [oosR, oosR_err h j (by omega)]
theorem oosR_bad {m : Mch} {i : Nat} {xs : List Int} (h : oosR m i = .ok xs) (hc : resC (ordW m [(i : Int) + 1]) ≠ 0) : oosR m (i + 1) = .error (resC (ordW m [(i : Int) + 1]) : Int) := by
  rw [oosR, h]; simp only; rw [if_neg hc]
theorem oosR_ok {m : Mch} {i : Nat} {xs : List Int} (h : oosR m i = .ok xs) (hc : resC (ordW m [(i : Int) + 1]) = 0) : oosR m (i + 1) = .ok (xs ++ [(resN (ordW m [(i : Int) + 1]) : Int)]) := by
  rw [oosR, h]; simp only; rw [if_pos hc]
theorem oosI_len (m : Mch) : (oosI m).1.length ≤ 100000 := by
  unfold oosI
  split
  · simp
  · rename_i h
    have := (mach_ok h).s_le
    split
    · simp
    · rename_i xs hx; have := oosR_len m _ _ hx; show xs.length ≤ 100000; omega
theorem gw_one {m : Mch} {i : Nat} (h : i < m.s) : GW m [(i : Int) + 1] := fun k hk => by
  rw [List.mem_singleton.1 hk]; omega
theorem ints_one (w : World) (x : Int) : IntsAt (w.alloc (.cells #[.int .i64 x] 2)) (some ⟨w.heap.size, 0, none⟩) [x] := fun i hi => by
  obtain rfl : i = 0 := by simpa using hi
  exact ⟨w.heap.size, 0, rfl, (Blk.new w #[.int .i64 x] 2).cell' (i := 0) rfl⟩

set_option maxRecDepth 100000 in
set_option maxHeartbeats 2000000 in
theorem specOrdersOfStates_any (m : Mch) (hwf : m.Wf) (w : World) :
    Calls Try.prog 30 #[.agg m.cells.toArray] w (RetI (oosI m).1 (oosI m).2 w) := by
  have hM0 := (Mm.start w).alloc m.cells.toArray 29
  have hm := hM0.mach 0 rfl
  have HIS := Lib.hid (l01Is_any m hwf (w.alloc (.cells m.cells.toArray 29)))
  have HM0 := Lib.hid hM0
  clear hM0
  go_enter Try.func30, Try.ntmps30
  go_wp2_with ((with_reducible refine ld_mach ?_ (.tmp 1) ?_ (w.heap.size) (0) ?_ m hm hwf ?_); exact rfl; exact rfl; exact rfl)
  refine HIS.out.mono ?_
  rintro e w1 ⟨rfl, hb1⟩
  have hM1 := HM0.out.call hb1
  clear HM0 HIS hm hb1
  cases hp : machP m with
  | false =>
    have HD : Hid (oosI m = ([], 1)) := by show _ = _; rw [oosI, hp]
    have hb := hM1.below
    clear hM1 hp
    go_wp2_with fail
    go_ret2
    rw [HD.out]
    exact ⟨_, rfl, hb, OwnI.nil _ _⟩
  | true =>
    have hok := mach_ok hp
    have hs16 := hok.s_le
    have HD : Hid (oosI m = match oosR m m.s with
      | .error c => ([], c)
      | .ok xs => (xs, 0)) := by show _ = _; rw [oosI, hp]
    have HOK := Lib.hid hok
    obtain ⟨i0, hi0, hz0, hz1, hz2⟩ := info_parts Try.info2
    have hM2 := hM1.newOwn #[] 2 0 rfl (by omega)
    clear hp hM1 hok
    go_wp2_with fail
    go_loopw [4, 5] (fun o q wr => ∃ (i : Nat) (xs : List Int), i ≤ m.s ∧ q = .int .i64 ((i : Int) + 1) ∧ Hid (oosR m i = .ok xs) ∧ Mm w.heap.size w wr [(w.heap.size, m.cells, 29)] [(o, 2, i64s xs)]) (fun _ q _ => 17 - (intOf q).toNat)
    case atStart => exact ⟨0, [], Nat.zero_le _, rfl, rfl, hM2⟩
    case round =>
      clear hM2
      obtain ⟨i, xs, hi, rfl, HX, hM⟩ := hrel
      have hm := hM.mach 0 rfl
      have cs := hm.s
      rw [HOK.out.S_eq] at cs
      have hxl := oosR_len m i xs HX.out
      by_cases hlt : i < m.s
      · have j1 : ((i : Int) + 1) ≤ (m.s : Int) := by omega
        have hba : Below wr.heap.size wr (wr.alloc (.cells #[.int .i64 ((i : Int) + 1)] 2)) := (Below.refl _ _).alloc (Nat.le_refl _) _
        have hm2 : MAt (wr.alloc (.cells #[.int .i64 ((i : Int) + 1)] 2)) w.heap.size 0 m := hm.keep hba hwf
        have HSE : Hid (Calls Try.prog 69 #[.agg m.cells.toArray, .slice (some ⟨wr.heap.size, 0, none⟩) 1 1] (wr.alloc (.cells #[.int .i64 ((i : Int) + 1)] 2)) _) := l06Search_any m hwf HOK.out (some ⟨wr.heap.size, 0, none⟩) [(i : Int) + 1] 1 (gw_one hlt) (by simp) _ (ints_one wr _)
        have hMa := hM.call hba
        clear hM hba hm2
        go_wp2_with ((with_reducible refine ld_mach ?_ (.tmp 1) ?_ (w.heap.size) (0) ?_ m hm hwf ?_); exact rfl; exact rfl; exact rfl)
        refine HSE.out.mono ?_
        rintro e w3 ⟨rfl, hb3⟩
        have hM3 := hMa.call hb3
        have hz := Blk.new w3 #[.string ⟨#[]⟩, .int .i64 0] 53
        have f0 := hz.free 0
        have f1 := hz.free 1
        have g0 := hz.cell' (i := 0) rfl
        have g1 := hz.cell' (i := 1) rfl
        have HB := Lib.hid (fun h => oosR_bad HX.out h)
        have HG := Lib.hid (fun h => oosR_ok HX.out h)
        generalize resN (ordW m [(i : Int) + 1]) = rn at *
        generalize resC (ordW m [(i : Int) + 1]) = rc at *
        generalize resS (ordW m [(i : Int) + 1]) = rs at *
        generalize resF (ordW m [(i : Int) + 1]) = rf at *
        clear hMa hb3 HSE hz hm cs
        by_cases hc : rc = 0
        · have HX2 := Lib.hid (HG.out hc)
          subst hc
          have hM4 := hM3.allocO (.cells #[.string rs, .int .i64 (rf : Int)] 53)
          have hsz : (w3.alloc (.cells #[.string rs, .int .i64 (rf : Int)] 53)).heap.size = w3.heap.size + 1 := by simp
          clear hM3 HB HG
          go_wp2_with (at_builtin; refine Mm.appendAt rfl (.tmp 30) (.tmp 32) 26 rfl hM4 0 rfl Try.underlying26 hi0 hz0 hz1 hz2 rfl rfl (w3.heap.size + 1) hsz rfl rfl (by simp [i64s]; omega) (by omega) ?_)
          intro g' cap' w5 hM5
          have HM5 : Hid (Mm w.heap.size w w5 [(w.heap.size, m.cells, 29)] [(.slice (some ⟨g', 0, none⟩) ((i64s xs).length + 1) cap', 2, i64s (xs ++ [(rn : Int)]))]) := by
            show Mm _ _ _ _ _; simpa [i64s] using hM5
          clear hM4 hM5
          go_wp2_with fail
          go_roundw
          case rel => exact ⟨i + 1, xs ++ [(rn : Int)], by omega, by go_num, HX2.out, HM5.out⟩
          case measure => simp [intOf] <;> omega
        · have HX2 : Hid (oosI m = ([], (rc : Int))) := by show _ = _; rw [HD.out, oosR_err (HB.out hc) m.s (by omega)]
          have j2 : ((rc : Int) != 0) = true := by simp; omega
          have HBB : Hid (∀ o, Below w.heap.size w (w3.alloc o)) := fun o => hM3.below.alloc (by have := hM3.size; omega) o
          clear hM3 HB HG
          go_wp2_with fail
          go_ret2
          rw [HX2.out]
          exact ⟨_, rfl, HBB.out _, OwnI.nil _ _⟩
      · have hi' : i = m.s := by omega
        subst hi'
        have HX2 : Hid (oosI m = (xs, 0)) := by show _ = _; rw [HD.out, HX.out]
        have HO := Lib.hid (OwnI.of_row (hM.own _ (List.mem_cons_self ..)))
        have hb := hM.below
        clear hM
        go_wp2_with fail
        go_ret2
        rw [HX2.out]
        exact ⟨_, rfl, hb, HO.out⟩

set_option maxRecDepth 100000 in
set_option maxHeartbeats 2000000 in
theorem implOrdersOfStates_any (m : Mch) (hwf : m.Wf) (w : World) :
    Calls Try.prog 31 #[.agg m.cells.toArray] w (RetI (oosI m).1 (oosI m).2 w) := by
  have hM0 := (Mm.start w).alloc m.cells.toArray 29
  have hm := hM0.mach 0 rfl
  have HIS := Lib.hid (IsMachine_any m hwf (w.alloc (.cells m.cells.toArray 29)))
  have HM0 := Lib.hid hM0
  clear hM0
  go_enter Try.func31, Try.ntmps31
  go_wp2_with ((with_reducible refine ld_mach ?_ (.tmp 1) ?_ (w.heap.size) (0) ?_ m hm hwf ?_); exact rfl; exact rfl; exact rfl)
  refine HIS.out.mono ?_
  rintro e w1 ⟨rfl, hb1⟩
  have hM1 := HM0.out.call hb1
  clear HM0 HIS hm hb1
  cases hp : machP m with
  | false =>
    have HD : Hid (oosI m = ([], 1)) := by show _ = _; rw [oosI, hp]
    have hb := hM1.below
    clear hM1 hp
    go_wp2_with fail
    go_ret2
    rw [HD.out]
    exact ⟨_, rfl, hb, OwnI.nil _ _⟩
  | true =>
    have hok := mach_ok hp
    have hs16 := hok.s_le
    have HD : Hid (oosI m = match oosR m m.s with
      | .error c => ([], c)
      | .ok xs => (xs, 0)) := by show _ = _; rw [oosI, hp]
    have HOK := Lib.hid hok
    obtain ⟨i0, hi0, hz0, hz1, hz2⟩ := info_parts Try.info2
    have hm1 := hM1.mach 0 rfl
    have HNG := Lib.hid (newGroup_any m hwf hok w1)
    clear hp hok
    go_wp2_with ((with_reducible refine ld_mach ?_ (.tmp 1) ?_ (w.heap.size) (0) ?_ m hm1 hwf ?_); exact rfl; exact rfl; exact rfl)
    refine HNG.out.mono ?_
    rintro e w2 ⟨G, rfl, hb2, hG⟩
    have hMw := hM1.call hb2
    have cs := (hMw.mach 0 rfl).s
    rw [HOK.out.S_eq] at cs
    have HG := Lib.hid hG
    have HBW := Lib.hid hMw.below
    have HSZ := Lib.hid hMw.size
    have hM2 := (Mm.start w2).addNil 2
    clear hM1 hm1 HNG hG hb2 hMw
    go_wp2_with fail
    clear cs
    go_loopw [5, 17] (fun o q wr => ∃ (i : Nat) (xs : List Int), i ≤ m.s ∧ q = .int .i64 (i : Int) ∧ Hid (oosR m i = .ok xs) ∧ Mm w2.heap.size w2 wr [] [(o, 2, i64s xs)]) (fun _ q _ => 17 - (intOf q).toNat)
    case atStart => exact ⟨0, [], Nat.zero_le _, rfl, rfl, hM2⟩
    case round =>
      clear hM2
      obtain ⟨i, xs, hi, rfl, HX, hM⟩ := hrel
      have hxl := oosR_len m i xs HX.out
      by_cases hlt : i < m.s
      · have j1 : (i : Int) < (m.s : Int) := by omega
        have e9 : IntKind.i64.wrap ((i : Int) + 1) = (i : Int) + 1 := IntWalk.i64_in _ (by omega)
        have hba : Below wr.heap.size wr (wr.alloc (.cells #[.int .i64 ((i : Int) + 1)] 2)) := (Below.refl _ _).alloc (Nat.le_refl _) _
        have hMa := hM.call hba
        have HSE : Hid (Calls Try.prog 70 #[.pointer (some ⟨G, 0, none⟩), .slice (some ⟨wr.heap.size, 0, none⟩) 1 1] (wr.alloc (.cells #[.int .i64 ((i : Int) + 1)] 2)) _) := gorder_any m hwf HOK.out G (some ⟨wr.heap.size, 0, none⟩) [(i : Int) + 1] 1 (gw_one hlt) (by simp) _ (HG.out.keep hMa.below) (ints_one wr _)
        clear hM hba
        go_wp2_with fail
        refine HSE.out.mono ?_
        rintro e w3 ⟨rs, rf, rfl, hb3, -⟩
        have hM3 := hMa.call hb3
        have hz := Blk.new w3 #[.string ⟨#[]⟩, .int .i64 0] 53
        have f0 := hz.free 0
        have f1 := hz.free 1
        have g0 := hz.cell' (i := 0) rfl
        have g1 := hz.cell' (i := 1) rfl
        have HB := Lib.hid (fun h => oosR_bad HX.out h)
        have HG2 := Lib.hid (fun h => oosR_ok HX.out h)
        generalize resN (ordW m [(i : Int) + 1]) = rn at *
        generalize resC (ordW m [(i : Int) + 1]) = rc at *
        clear hMa hb3 HSE hz
        by_cases hc : rc = 0
        · have HX2 := Lib.hid (HG2.out hc)
          subst hc
          have hM4 := hM3.allocO (.cells #[.string rs, .int .i64 (rf : Int)] 53)
          have hsz : (w3.alloc (.cells #[.string rs, .int .i64 (rf : Int)] 53)).heap.size = w3.heap.size + 1 := by simp
          clear hM3 HB HG2
          go_wp2_with (at_builtin; refine Mm.appendAt rfl (.tmp 32) (.tmp 34) 26 rfl hM4 0 rfl Try.underlying26 hi0 hz0 hz1 hz2 rfl rfl (w3.heap.size + 1) hsz rfl rfl (by simp [i64s]; omega) (by omega) ?_)
          intro g' cap' w5 hM5
          have HM5 : Hid (Mm w2.heap.size w2 w5 [] [(.slice (some ⟨g', 0, none⟩) ((i64s xs).length + 1) cap', 2, i64s (xs ++ [(rn : Int)]))]) := by
            show Mm _ _ _ _ _; simpa [i64s] using hM5
          clear hM4 hM5
          go_wp2_with fail
          go_roundw
          case rel => exact ⟨i + 1, xs ++ [(rn : Int)], by omega, by go_num, HX2.out, HM5.out⟩
          case measure => simp [intOf] <;> omega
        · have HX2 : Hid (oosI m = ([], (rc : Int))) := by show _ = _; rw [HD.out, oosR_err (HB.out hc) m.s (by omega)]
          have j2 : ((rc : Int) != 0) = true := by simp; omega
          have HBB : Hid (∀ o, Below w.heap.size w (w3.alloc o)) := fun o => (HBW.out.trans (hM3.below.mono HSZ.out)).alloc (by have := hM3.size; have := HSZ.out; omega) o
          clear hM3 HB HG2
          go_wp2_with fail
          go_ret2
          rw [HX2.out]
          exact ⟨_, rfl, HBB.out _, OwnI.nil _ _⟩
      · have hi' : i = m.s := by omega
        subst hi'
        have HX2 : Hid (oosI m = (xs, 0)) := by show _ = _; rw [HD.out, HX.out]
        have j1 : ¬ ((m.s : Int) < (m.s : Int)) := by omega
        have HO := Lib.hid ((OwnI.of_row (hM.own _ (List.mem_cons_self ..))).less HSZ.out)
        have hb := HBW.out.trans (hM.below.mono HSZ.out)
        clear hM
        go_wp2_with fail
        go_ret2
        rw [HX2.out]
        exact ⟨_, rfl, hb, HO.out⟩
end Go.Proofs.Yteagecoiijhflaa

/- OrdersOfStates returns what its reference returns, for all arguments. No condition. -/
namespace Go.Proofs.Yteagecoiijhflaa
open Go.ChangeShapes Go.WideShapes Go.ChangeAt Go.RowKit Go.Joins
open Go.ChangeMaps (open_string shut_string)
set_option linter.unusedVariables false
set_option linter.unusedSimpArgs false

set_option maxRecDepth 100000 in
set_option maxHeartbeats 1000000 in
theorem lawOrdersOfStates_core (m : Mch) (hwf : m.Wf) (xs : List Int) (c : Int) (hx : xs.length ≤ 100000)
    (hS : ∀ w, Calls Try.prog 30 #[.agg m.cells.toArray] w (RetI xs c w)) (hI : ∀ w, Calls Try.prog 31 #[.agg m.cells.toArray] w (RetI xs c w)) (w : World) :
    Calls Try.prog 6 #[.agg m.cells.toArray] w (Ret (.bool true) w) := by
  have HS := Lib.hid hS
  have HIM := Lib.hid hI
  have HX := Lib.hid hx
  clear hS hI hx
  have hm := MAt.boxed w m 25
  have hb0 := boxedBelow w m.cells.toArray 25
  have HW := Lib.hid hwf
  have hi : (Try.prog.info? 25).map (·.size) = some m.cells.length := by rw [Mch.cells_length hwf]; kernel_rfl
  have HI := Lib.hid hi
  have hr : (w.alloc (.cells m.cells.toArray 25)).rangeAt w.heap.size 0 m.cells := hm
  clear hi
  go_enter Try.func6, Try.ntmps6
  go_wp2_with ((with_reducible refine ld_row ?_ 25 (.tmp 1) ?_ w.heap.size 0 ?_ m.cells (.struct _) hr Try.underlying25 ?_ HI.out ?_); exact rfl; exact rfl; exact rfl; exact rfl)
  refine (toMachine_any m hwf _).mono ?_
  rintro e w1 ⟨rfl, hb1⟩
  have hbb1 := hb0.trans (hb1.mono hb0.size)
  have hm1 := hm.keep hb1 hwf
  go_wp2_with fail
  refine (HS.out _).mono ?_
  rintro e w2 ⟨v, rfl, hb2, hO2⟩
  have HO2 := Lib.hid hO2
  have hbb2 := hbb1.trans (hb2.mono hbb1.size)
  have hm2 := hm1.keep hb2 hwf
  have hr2 : w2.rangeAt w.heap.size 0 m.cells := hm2
  clear hO2
  go_wp2_with ((with_reducible refine ld_row ?_ 25 (.tmp 1) ?_ w.heap.size 0 ?_ m.cells (.struct _) hr2 Try.underlying25 ?_ HI.out ?_); exact rfl; exact rfl; exact rfl; exact rfl)
  refine (toMachine_any m hwf _).mono ?_
  rintro e w3 ⟨rfl, hb3⟩
  have hbb3 := hbb2.trans (hb3.mono hbb2.size)
  have hm3 := hm2.keep hb3 hwf
  have HO3 := Lib.hid (HO2.out.below hb3)
  have HLT : Hid (∀ g, v.ownBlock = some g → g < w3.heap.size) := fun g hg => (World.ownsRow.lt HO3.out g hg).2
  go_wp2_with fail
  refine (HIM.out _).mono ?_
  rintro e w4 ⟨u, rfl, hb4, hO4⟩
  have HU4 := Lib.hid hO4
  have hbb4 := hbb3.trans (hb4.mono hbb3.size)
  have hm4 := hm3.keep hb4 hwf
  have HO4 := Lib.hid (HO3.out.below hb4)
  have HF1 := Lib.hid HO4.out.form
  have HF2 := Lib.hid HU4.out.form
  clear hO4
  obtain ⟨a1, c1, rfl, hI1⟩ := HF1.out
  obtain ⟨a2, c2, rfl, hI2⟩ := HF2.out
  have HI1 := Lib.hid hI1
  have HI2 := Lib.hid hI2
  clear HF1 HF2 hI1 hI2
  go_wp2_with fail
  refine (eqI_same a2 a1 c2 c1 xs (by have := HX.out; omega) _ HI2.out HI1.out).mono ?_
  rintro e w5 ⟨rfl, hb5⟩
  have hbb5 := hbb4.trans (hb5.mono hbb4.size)
  have hm5 := hm4.keep hb5 hwf
  have HU5 := Lib.hid (HU4.out.below hb5)
  have HO5 := Lib.hid (HO4.out.below hb5)
  have hs35 : w3.heap.size ≤ w5.heap.size := Nat.le_trans hb4.size hb5.size
  have hx := HX.out
  go_wp2_with fail
  refine (markI_any w3.heap.size _ xs 1 (by omega) (by omega) _ hs35 HU5.out).mono ?_
  rintro e w6 ⟨rfl, hb6, hM6⟩
  have HM6 := Lib.hid hM6
  clear hM6
  have hbb6 := hbb5.trans (hb6.mono (Nat.le_trans hbb3.size (Nat.le_refl _)))
  have hm6 : MAt w6 w.heap.size 0 m := hm5.below hb6 (World.block_lt_of_cell? w3 ⟨w.heap.size, 0, none⟩ hm3.l)
  have HO6 : Hid (OwnI w6 w1.heap.size (.slice a1 xs.length c1) xs) := HO5.out.keep hb6 HLT.out
  go_wp2_with fail
  refine (heldI_any w3.heap.size _ 1 xs.length (by omega) (by omega) _ HM6.out).mono ?_
  rintro e w7 ⟨rfl, hb7⟩
  have hbb7 := hbb6.trans (hb7.mono hbb6.size)
  have hm7 := hm6.keep hb7 hwf
  have HM7 := Lib.hid (HM6.out.below hb7)
  have HO7 := Lib.hid (HO6.out.below hb7)
  have hr7 : w7.rangeAt w.heap.size 0 m.cells := hm7
  go_wp2_with ((with_reducible refine ld_row ?_ 25 (.tmp 1) ?_ w.heap.size 0 ?_ m.cells (.struct _) hr7 Try.underlying25 ?_ HI.out ?_); exact rfl; exact rfl; exact rfl; exact rfl)
  refine (toMachine_any m hwf _).mono ?_
  rintro e w8 ⟨rfl, hb8⟩
  have hbb8 := hbb7.trans (hb8.mono hbb7.size)
  have HM8 := Lib.hid (HM7.out.below hb8)
  have HO8 := Lib.hid (HO7.out.below hb8)
  go_wp2_with fail
  refine (HIM.out _).mono ?_
  rintro e w9 ⟨u9, rfl, hb9, hO9⟩
  have HF9 := Lib.hid hO9.form
  clear hO9
  obtain ⟨a9, c9, rfl, hI9⟩ := HF9.out
  have HI9 := Lib.hid hI9
  clear HF9 hI9
  have hbb9 := hbb8.trans (hb9.mono hbb8.size)
  have HM9 := Lib.hid (HM8.out.below hb9)
  have HO9 := Lib.hid (HO8.out.below hb9)
  have HI9' : Hid (IntsAt w9 a1 xs) := by
    obtain ⟨a, d, e, h⟩ := HO9.out.form
    have : a1 = a := by injection e
    rw [this]; exact h
  go_wp2_with fail
  refine (eqI_same a9 a1 c9 c1 xs (by omega) _ HI9.out HI9'.out).mono ?_
  rintro e w10 ⟨rfl, hb10⟩
  have hbb10 := hbb9.trans (hb10.mono hbb9.size)
  have HM10 := Lib.hid (HM9.out.below hb10)
  go_wp2_with fail
  refine (heldI_any w3.heap.size _ 1 xs.length (by omega) (by omega) _ HM10.out).mono ?_
  rintro e w11 ⟨rfl, hb11⟩
  have hbb11 := hbb10.trans (hb11.mono hbb10.size)
  go_wp2_with fail
  go_ret
  exact ⟨rfl, hbb11⟩

set_option maxRecDepth 100000 in
theorem lawOrdersOfStates_lifted (os : Os) (started : os.Started) (H : Type) (enc : TypeId × Value → H) :
    ReturnsInHanded {} Try.checked os 6 .any (Rows.fnExactOrdersOfStatesSpec.pre6 enc Try.prog Try.f6 Rows.fnExactOrdersOfStatesRow.domain false) (Rows.fnExactOrdersOfStatesSpec.post enc Try.prog Try.f6 false true false false) := by
  refine returnsInHanded_of_change (C := Try.checked) Try.own started (by kernel_rfl) Try.func6
    (ChangeSpec.witness6 (enc := enc) (C := Try.checked) false ⟨#[], #[.agg ((Value.int .i64 0 :: Value.int .i64 0 :: List.replicate 96 (Value.int .u8 0)).toArray)], []⟩ 8 (by kernel_rfl) (by kernel_rfl) (by kernel_rfl) (by kernel_rfl)) ?_
  intro W base args ds gs before hval0 hW _ _
  have hval : ∀ (j : Nat) t v, Try.f6.params[j]? = some t → args[j]? = some v → Value.okWide Try.prog W .any base t v := hval0
  have hW' := hW
  obtain ⟨p, q, hA0, hV, rfl, _, _⟩ := hW
  have hA : DataW.TrodAll enc Try.prog W 0 (fun _ => true) true Try.f6.params.toList args.toList ds p := hA0
  rw [Try.params6] at hA hval
  obtain ⟨v0, d0, rfl, rfl, h0⟩ := trodAll_one hA
  obtain ⟨rfl, rfl⟩ := trodVars_none hV
  obtain ⟨m, hwf, rfl⟩ := open_mach (hval 0 25 v0 rfl rfl) h0
  refine (lawOrdersOfStates_core m hwf _ _ (oosI_len m) (fun w => specOrdersOfStates_any m hwf w) (fun w => implOrdersOfStates_any m hwf w) W).mono fun e W' ⟨he, hb⟩ => ⟨_, he, ?_⟩
  exact law_post Try.laidOut (by kernel_rfl) hW' rfl rfl rfl rfl hb rfl Try.underlying4

theorem ordersOfStates_closed : joinedFacts Try.checked.prog 6 Try.f6 Rows.fnExactOrdersOfStatesSpec Rows.fnExactOrdersOfStatesRow = true := by
  unfold joinedFacts
  rw [c_enter, c_lifts, c_make]
  kernel_rfl

theorem ordersOfStates_holds : Rows.FnExactOrdersOfStatesSaid :=
  OpenClaim.holds_of_wide 6 Try.f6 rfl rfl rfl rfl rfl rfl rfl ⟨rfl, rfl, rfl, rfl, rfl⟩ rfl rfl rfl rfl rfl (by kernel_rfl) Try.func6 ordersOfStates_closed
    (of_decide_eq_true (by kernel_rfl)) (by unfold Func.isWrapper; first | (rw [if_pos (by decide +kernel)]; kernel_rfl) | (rw [if_neg (by decide +kernel)]; exact ⟨rfl, rfl⟩))
    (fun os started H enc _ => lawOrdersOfStates_lifted os started H enc)
#print axioms ordersOfStates_holds
end Go.Proofs.Yteagecoiijhflaa
