import Derived.Test.YteagecoiijhflaaZLOrderOf19
import Derived.Test.YteagecoiijhflaaZLOrderOf07
import Derived.Lib.SliceRun
import Derived.RangeFuncBox
import Derived.RangeFuncLeaves
import Derived.RangeFuncNested
import Derived.Shelf.Abstract
import Derived.WalkKit
import Derived.OwnWalkIn
import Derived.TacticsInMore
import Derived.LoopNIn
import Derived.LoopIn
import Derived.Maps.AppendAt
import Derived.Lib.AppendZerosOnto
/- OrdersOfStates of both sides. -/
namespace Go.Proofs.Yteagecoiijhflaa
open Go.RowKit
set_option linter.unusedVariables false
set_option linter.unusedSimpArgs false

/-- the orders of the first states, or the error -/
def oosR (m : Mch) : Nat → Except Int (List Int)
  | 0 => .ok []
  | i + 1 => match oosR m i with
    | .error c => .error c
    | .ok xs => if resC (ordW m [(i : Int) + 1]) = 0 then .ok (xs ++ [(resN (ordW m [(i : Int) + 1]) : Int)]) else .error (resC (ordW m [(i : Int) + 1]) : Int)
def oosI (m : Mch) : List Int × Int := match machP m with
  | false => ([], 1)
  | true => match oosR m m.s with
    | .error c => ([], c)
    | .ok xs => (xs, 0)
theorem oosR_len (m : Mch) : ∀ (i : Nat) (xs : List Int), oosR m i = .ok xs → xs.length = i
  | 0, xs, h => by simp only [oosR] at h; injection h with h; subst h; rfl
  | i + 1, xs, h => by
    simp only [oosR] at h
    split at h
    · cases h
    · rename_i ys hy
      split at h
      · injection h with h; subst h; simp [oosR_len m i ys hy]
      · cases h
theorem oosR_err {m : Mch} {c : Int} {i : Nat} (h : oosR m i = .error c) : ∀ j, i ≤ j → oosR m j = .error c
  | 0, hj => by obtain rfl : i = 0 := by omega
                exact h
  | j + 1, hj => by
    by_cases e : i = j + 1
    · subst e; exact h
    · rw [oosR, oosR_err h j (by omega)]
theorem oosR_bad {m : Mch} {i : Nat} {xs : List Int} (h : oosR m i = .ok xs) (hc : resC (ordW m [(i : Int) + 1]) ≠ 0) : oosR m (i + 1) = .error (resC (ordW m [(i : Int) + 1]) : Int) := by
  rw [oosR, h]; simp only; rw [if_neg hc]
theorem oosR_ok {m : Mch} {i : Nat} {xs : List Int} (h : oosR m i = .ok xs) (hc : resC (ordW m [(i : Int) + 1]) = 0) : oosR m (i + 1) = .ok (xs ++ [(resN (ordW m [(i : Int) + 1]) : Int)]) := by
  rw [oosR, h]; simp only; rw [if_pos hc]
theorem oosI_len (m : Mch) : (oosI m).1.length ≤ 100000 := by
  unfold oosI
  split
  · simp
  · rename_i h
    have := (mach_ok h).s_le
    split
    · simp
    · rename_i xs hx; have := oosR_len m _ _ hx; show xs.length ≤ 100000; omega
theorem gw_one {m : Mch} {i : Nat} (h : i < m.s) : GW m [(i : Int) + 1] := fun k hk => by
  rw [List.mem_singleton.1 hk]; omega
theorem ints_one (w : World) (x : Int) : IntsAt (w.alloc (.cells #[.int .i64 x] 2)) (some ⟨w.heap.size, 0, none⟩) [x] := fun i hi => by
  obtain rfl : i = 0 := by simpa using hi
  exact ⟨w.heap.size, 0, rfl, (Blk.new w #[.int .i64 x] 2).cell' (i := 0) rfl⟩

set_option maxRecDepth 100000 in
set_option maxHeartbeats 2000000 in
theorem specOrdersOfStates_any (m : Mch) (hwf : m.Wf) (w : World) :
    Calls Try.prog 30 #[.agg m.cells.toArray] w (RetI (oosI m).1 (oosI m).2 w) := by
  have hM0 := (Mm.start w).alloc m.cells.toArray 29
  have hm := hM0.mach 0 rfl
  have HIS := Lib.hid (l01Is_any m hwf (w.alloc (.cells m.cells.toArray 29)))
  have HM0 := Lib.hid hM0
  clear hM0
  go_enter Try.func30, Try.ntmps30
  go_wp2_with ((with_reducible refine ld_mach ?_ (.tmp 1) ?_ (w.heap.size) (0) ?_ m hm hwf ?_); exact rfl; exact rfl; exact rfl)
  refine HIS.out.mono ?_
  rintro e w1 ⟨rfl, hb1⟩
  have hM1 := HM0.out.call hb1
  clear HM0 HIS hm hb1
  cases hp : machP m with
  | false =>
    have HD : Hid (oosI m = ([], 1)) := by show _ = _; rw [oosI, hp]
    have hb := hM1.below
    clear hM1 hp
    go_wp2_with fail
    go_ret2
    rw [HD.out]
    exact ⟨_, rfl, hb, OwnI.nil _ _⟩
  | true =>
    have hok := mach_ok hp
    have hs16 := hok.s_le
    have HD : Hid (oosI m = match oosR m m.s with
      | .error c => ([], c)
      | .ok xs => (xs, 0)) := by show _ = _; rw [oosI, hp]
    have HOK := Lib.hid hok
    obtain ⟨i0, hi0, hz0, hz1, hz2⟩ := info_parts Try.info2
    have hM2 := hM1.newOwn #[] 2 0 rfl (by omega)
    clear hp hM1 hok
    go_wp2_with fail
    go_loopw [4, 5] (fun o q wr => ∃ (i : Nat) (xs : List Int), i ≤ m.s ∧ q = .int .i64 ((i : Int) + 1) ∧ Hid (oosR m i = .ok xs) ∧ Mm w.heap.size w wr [(w.heap.size, m.cells, 29)] [(o, 2, i64s xs)]) (fun _ q _ => 17 - (intOf q).toNat)
    case atStart => exact ⟨0, [], Nat.zero_le _, rfl, rfl, hM2⟩
    case round =>
      clear hM2
      obtain ⟨i, xs, hi, rfl, HX, hM⟩ := hrel
      have hm := hM.mach 0 rfl
      have cs := hm.s
      rw [HOK.out.S_eq] at cs
      have hxl := oosR_len m i xs HX.out
      by_cases hlt : i < m.s
      · have j1 : ((i : Int) + 1) ≤ (m.s : Int) := by omega
        have hba : Below wr.heap.size wr (wr.alloc (.cells #[.int .i64 ((i : Int) + 1)] 2)) := (Below.refl _ _).alloc (Nat.le_refl _) _
        have hm2 : MAt (wr.alloc (.cells #[.int .i64 ((i : Int) + 1)] 2)) w.heap.size 0 m := hm.keep hba hwf
        have HSE : Hid (Calls Try.prog 69 #[.agg m.cells.toArray, .slice (some ⟨wr.heap.size, 0, none⟩) 1 1] (wr.alloc (.cells #[.int .i64 ((i : Int) + 1)] 2)) _) := l06Search_any m hwf HOK.out (some ⟨wr.heap.size, 0, none⟩) [(i : Int) + 1] 1 (gw_one hlt) (by simp) _ (ints_one wr _)
        have hMa := hM.call hba
        clear hM hba hm2
        go_wp2_with ((with_reducible refine ld_mach ?_ (.tmp 1) ?_ (w.heap.size) (0) ?_ m hm hwf ?_); exact rfl; exact rfl; exact rfl)
        refine HSE.out.mono ?_
        rintro e w3 ⟨rfl, hb3⟩
        have hM3 := hMa.call hb3
        have hz := Blk.new w3 #[.string ⟨#[]⟩, .int .i64 0] 53
        have f0 := hz.free 0
        have f1 := hz.free 1
        have g0 := hz.cell' (i := 0) rfl
        have g1 := hz.cell' (i := 1) rfl
        have HB := Lib.hid (fun h => oosR_bad HX.out h)
        have HG := Lib.hid (fun h => oosR_ok HX.out h)
        generalize resN (ordW m [(i : Int) + 1]) = rn at *
        generalize resC (ordW m [(i : Int) + 1]) = rc at *
        generalize resS (ordW m [(i : Int) + 1]) = rs at *
        generalize resF (ordW m [(i : Int) + 1]) = rf at *
        clear hMa hb3 HSE hz hm cs
        by_cases hc : rc = 0
        · have HX2 := Lib.hid (HG.out hc)
          subst hc
          have hM4 := hM3.allocO (.cells #[.string rs, .int .i64 (rf : Int)] 53)
          have hsz : (w3.alloc (.cells #[.string rs, .int .i64 (rf : Int)] 53)).heap.size = w3.heap.size + 1 := by simp
          clear hM3 HB HG
          go_wp2_with (at_builtin; refine Mm.appendAt rfl (.tmp 30) (.tmp 32) 26 rfl hM4 0 rfl Try.underlying26 hi0 hz0 hz1 hz2 rfl rfl (w3.heap.size + 1) hsz rfl rfl (by simp [i64s]; omega) (by omega) ?_)
          intro g' cap' w5 hM5
          have HM5 : Hid (Mm w.heap.size w w5 [(w.heap.size, m.cells, 29)] [(.slice (some ⟨g', 0, none⟩) ((i64s xs).length + 1) cap', 2, i64s (xs ++ [(rn : Int)]))]) := by
            show Mm _ _ _ _ _; simpa [i64s] using hM5
          clear hM4 hM5
          go_wp2_with fail
          go_roundw
          case rel => exact ⟨i + 1, xs ++ [(rn : Int)], by omega, by go_num, HX2.out, HM5.out⟩
          case measure => simp [intOf] <;> omega
        · have HX2 : Hid (oosI m = ([], (rc : Int))) := by show _ = _; rw [HD.out, oosR_err (HB.out hc) m.s (by omega)]
          have j2 : ((rc : Int) != 0) = true := by simp; omega
          have HBB : Hid (∀ o, Below w.heap.size w (w3.alloc o)) := fun o => hM3.below.alloc (by have := hM3.size; omega) o
          clear hM3 HB HG
          go_wp2_with fail
          go_ret2
          rw [HX2.out]
          exact ⟨_, rfl, HBB.out _, OwnI.nil _ _⟩
      · have hi' : i = m.s := by omega
        subst hi'
        have HX2 : Hid (oosI m = (xs, 0)) := by show _ = _; rw [HD.out, HX.out]
        have HO := Lib.hid (OwnI.of_row (hM.own _ (List.mem_cons_self ..)))
        have hb := hM.below
        clear hM
        go_wp2_with fail
        go_ret2
        rw [HX2.out]
        exact ⟨_, rfl, hb, HO.out⟩

set_option maxRecDepth 100000 in
set_option maxHeartbeats 2000000 in
theorem implOrdersOfStates_any (m : Mch) (hwf : m.Wf) (w : World) :
    Calls Try.prog 31 #[.agg m.cells.toArray] w (RetI (oosI m).1 (oosI m).2 w) := by
  have hM0 := (Mm.start w).alloc m.cells.toArray 29
  have hm := hM0.mach 0 rfl
  have HIS := Lib.hid (IsMachine_any m hwf (w.alloc (.cells m.cells.toArray 29)))
  have HM0 := Lib.hid hM0
  clear hM0
  go_enter Try.func31, Try.ntmps31
  go_wp2_with ((with_reducible refine ld_mach ?_ (.tmp 1) ?_ (w.heap.size) (0) ?_ m hm hwf ?_); exact rfl; exact rfl; exact rfl)
  refine HIS.out.mono ?_
  rintro e w1 ⟨rfl, hb1⟩
  have hM1 := HM0.out.call hb1
  clear HM0 HIS hm hb1
  cases hp : machP m with
  | false =>
    have HD : Hid (oosI m = ([], 1)) := by show _ = _; rw [oosI, hp]
    have hb := hM1.below
    clear hM1 hp
    go_wp2_with fail
    go_ret2
    rw [HD.out]
    exact ⟨_, rfl, hb, OwnI.nil _ _⟩
  | true =>
    have hok := mach_ok hp
    have hs16 := hok.s_le
    have HD : Hid (oosI m = match oosR m m.s with
      | .error c => ([], c)
      | .ok xs => (xs, 0)) := by show _ = _; rw [oosI, hp]
    have HOK := Lib.hid hok
    obtain ⟨i0, hi0, hz0, hz1, hz2⟩ := info_parts Try.info2
    have hm1 := hM1.mach 0 rfl
    have HNG := Lib.hid (newGroup_any m hwf hok w1)
    clear hp hok
    go_wp2_with ((with_reducible refine ld_mach ?_ (.tmp 1) ?_ (w.heap.size) (0) ?_ m hm1 hwf ?_); exact rfl; exact rfl; exact rfl)
    refine HNG.out.mono ?_
    rintro e w2 ⟨G, rfl, hb2, hG⟩
    have hMw := hM1.call hb2
    have cs := (hMw.mach 0 rfl).s
    rw [HOK.out.S_eq] at cs
    have HG := Lib.hid hG
    have HBW := Lib.hid hMw.below
    have HSZ := Lib.hid hMw.size
    have hM2 := (Mm.start w2).addNil 2
    clear hM1 hm1 HNG hG hb2 hMw
    go_wp2_with fail
    clear cs
    go_loopw [5, 17] (fun o q wr => ∃ (i : Nat) (xs : List Int), i ≤ m.s ∧ q = .int .i64 (i : Int) ∧ Hid (oosR m i = .ok xs) ∧ Mm w2.heap.size w2 wr [] [(o, 2, i64s xs)]) (fun _ q _ => 17 - (intOf q).toNat)
    case atStart => exact ⟨0, [], Nat.zero_le _, rfl, rfl, hM2⟩
    case round =>
      clear hM2
      obtain ⟨i, xs, hi, rfl, HX, hM⟩ := hrel
      have hxl := oosR_len m i xs HX.out
      by_cases hlt : i < m.s
      · have j1 : (i : Int) < (m.s : Int) := by omega
        have e9 : IntKind.i64.wrap ((i : Int) + 1) = (i : Int) + 1 := IntWalk.i64_in _ (by omega)
        have hba : Below wr.heap.size wr (wr.alloc (.cells #[.int .i64 ((i : Int) + 1)] 2)) := (Below.refl _ _).alloc (Nat.le_refl _) _
        have hMa := hM.call hba
        have HSE : Hid (Calls Try.prog 70 #[.pointer (some ⟨G, 0, none⟩), .slice (some ⟨wr.heap.size, 0, none⟩) 1 1] (wr.alloc (.cells #[.int .i64 ((i : Int) + 1)] 2)) _) := gorder_any m hwf HOK.out G (some ⟨wr.heap.size, 0, none⟩) [(i : Int) + 1] 1 (gw_one hlt) (by simp) _ (HG.out.keep hMa.below) (ints_one wr _)
        clear hM hba
        go_wp2_with fail
        refine HSE.out.mono ?_
        rintro e w3 ⟨rs, rf, rfl, hb3, -⟩
        have hM3 := hMa.call hb3
        have hz := Blk.new w3 #[.string ⟨#[]⟩, .int .i64 0] 53
        have f0 := hz.free 0
        have f1 := hz.free 1
        have g0 := hz.cell' (i := 0) rfl
        have g1 := hz.cell' (i := 1) rfl
        have HB := Lib.hid (fun h => oosR_bad HX.out h)
        have HG2 := Lib.hid (fun h => oosR_ok HX.out h)
        generalize resN (ordW m [(i : Int) + 1]) = rn at *
        generalize resC (ordW m [(i : Int) + 1]) = rc at *
        clear hMa hb3 HSE hz
        by_cases hc : rc = 0
        · have HX2 := Lib.hid (HG2.out hc)
          subst hc
          have hM4 := hM3.allocO (.cells #[.string rs, .int .i64 (rf : Int)] 53)
          have hsz : (w3.alloc (.cells #[.string rs, .int .i64 (rf : Int)] 53)).heap.size = w3.heap.size + 1 := by simp
          clear hM3 HB HG2
          go_wp2_with (at_builtin; refine Mm.appendAt rfl (.tmp 32) (.tmp 34) 26 rfl hM4 0 rfl Try.underlying26 hi0 hz0 hz1 hz2 rfl rfl (w3.heap.size + 1) hsz rfl rfl (by simp [i64s]; omega) (by omega) ?_)
          intro g' cap' w5 hM5
          have HM5 : Hid (Mm w2.heap.size w2 w5 [] [(.slice (some ⟨g', 0, none⟩) ((i64s xs).length + 1) cap', 2, i64s (xs ++ [(rn : Int)]))]) := by
            show Mm _ _ _ _ _; simpa [i64s] using hM5
          clear hM4 hM5
          go_wp2_with fail
          go_roundw
          case rel => exact ⟨i + 1, xs ++ [(rn : Int)], by omega, by go_num, HX2.out, HM5.out⟩
          case measure => simp [intOf] <;> omega
        · have HX2 : Hid (oosI m = ([], (rc : Int))) := by show _ = _; rw [HD.out, oosR_err (HB.out hc) m.s (by omega)]
          have j2 : ((rc : Int) != 0) = true := by simp; omega
          have HBB : Hid (∀ o, Below w.heap.size w (w3.alloc o)) := fun o => (HBW.out.trans (hM3.below.mono HSZ.out)).alloc (by have := hM3.size; have := HSZ.out; omega) o
          clear hM3 HB HG2
          go_wp2_with fail
          go_ret2
          rw [HX2.out]
          exact ⟨_, rfl, HBB.out _, OwnI.nil _ _⟩
      · have hi' : i = m.s := by omega
        subst hi'
        have HX2 : Hid (oosI m = (xs, 0)) := by show _ = _; rw [HD.out, HX.out]
        have j1 : ¬ ((m.s : Int) < (m.s : Int)) := by omega
        have HO := Lib.hid ((OwnI.of_row (hM.own _ (List.mem_cons_self ..))).less HSZ.out)
        have hb := HBW.out.trans (hM.below.mono HSZ.out)
        clear hM
        go_wp2_with fail
        go_ret2
        rw [HX2.out]
        exact ⟨_, rfl, hb, HO.out⟩
end Go.Proofs.Yteagecoiijhflaa

/- All words of so many numbers; slices.Clone; groupWords of the program. -/
namespace Go.Proofs.Yteagecoiijhflaa
open Go.RowKit
set_option linter.unusedVariables false
set_option linter.unusedSimpArgs false

/-- the numbers from -s on, so many but for 0 -/
def numT (s t : Nat) : List Int := ((List.range t).map fun (i : Nat) => (i : Int) - (s : Int)).filter fun q => q != 0
theorem numT_succ (s t : Nat) : numT s (t + 1) = numT s t ++ if (t : Int) - (s : Int) = 0 then [] else [(t : Int) - (s : Int)] := by
  simp only [numT, List.range_succ, List.map_append, List.map_cons, List.map_nil, List.filter_append, List.filter_cons, List.filter_nil]
  congr 1
  by_cases h : (t : Int) - (s : Int) = 0
  · rw [if_pos h, h]; rfl
  · rw [if_neg h, if_pos (by simpa using h)]
theorem numT_len (s t : Nat) : (numT s t).length ≤ t := by
  refine Nat.le_trans (List.length_filter_le _ _) (by simp)
theorem numT_mem {s t : Nat} {q : Int} (h : q ∈ numT s t) : q ≠ 0 ∧ -(s : Int) ≤ q ∧ q < (t : Int) - s := by
  simp only [numT, List.mem_filter, List.mem_map, List.mem_range, bne_iff_ne] at h
  obtain ⟨⟨i, hi, rfl⟩, h0⟩ := h
  exact ⟨h0, by omega, by omega⟩
def extW (s t : Nat) (g : Wd) : List Wd := (numT s t).map fun q => g ++ [q]
theorem extW_zero (s : Nat) (g : Wd) : extW s 0 g = [] := rfl
theorem extW_succ (s t : Nat) (g : Wd) : extW s (t + 1) g = extW s t g ++ if (t : Int) - (s : Int) = 0 then [] else [g ++ [(t : Int) - (s : Int)]] := by
  rw [extW, numT_succ, List.map_append]
  congr 1
  split <;> rfl
theorem extW_len (s t : Nat) (g : Wd) : (extW s t g).length ≤ t := by simp only [extW, List.length_map]; exact numT_len s t
def nxtW (s : Nat) (Q : List Wd) (i : Nat) : List Wd := (Q.take i).flatMap (extW s (2 * s + 1))
theorem nxtW_zero (s : Nat) (Q : List Wd) : nxtW s Q 0 = [] := rfl
theorem nxtW_succ (s : Nat) (Q : List Wd) {i : Nat} (h : i < Q.length) : nxtW s Q (i + 1) = nxtW s Q i ++ extW s (2 * s + 1) (Q[i]?.getD []) := by
  simp only [nxtW, List.take_succ_eq_append_getElem h, List.flatMap_append, List.flatMap_cons, List.flatMap_nil, List.append_nil, List.getElem?_eq_getElem h, Option.getD_some]
theorem nxtW_len (s : Nat) (hs : s ≤ 5) (Q : List Wd) : ∀ i, i ≤ Q.length → (nxtW s Q i).length ≤ 11 * i
  | 0, _ => by simp [nxtW_zero]
  | i + 1, h => by
    have := nxtW_len s hs Q i (by omega)
    rw [nxtW_succ s Q (by omega), List.length_append]
    have := extW_len s (2 * s + 1) (Q[i]?.getD [])
    omega
/-- all words of so many numbers, in order -/
def gwsN (s : Nat) : Nat → List Wd
  | 0 => [[]]
  | k + 1 => nxtW s (gwsN s k) (gwsN s k).length
theorem gwsN_len (s : Nat) (hs : s ≤ 5) : ∀ k, (gwsN s k).length ≤ 11 ^ k
  | 0 => by simp [gwsN]
  | k + 1 => by
    have h1 := gwsN_len s hs k
    have h2 := nxtW_len s hs (gwsN s k) _ (Nat.le_refl _)
    rw [gwsN, Nat.pow_succ]
    omega
theorem gwsN_small (s : Nat) (hs : s ≤ 5) {k : Nat} (hk : k ≤ 4) : (gwsN s k).length ≤ 14641 :=
  Nat.le_trans (gwsN_len s hs k) (Nat.le_trans (Nat.pow_le_pow_right (by omega) hk) (by decide))
theorem gwsN_word (s : Nat) : ∀ (k : Nat) (g : Wd), g ∈ gwsN s k → g.length = k ∧ ∀ q ∈ g, q ≠ 0 ∧ -(s : Int) ≤ q ∧ q ≤ s
  | 0, g, h => by
    simp only [gwsN, List.mem_singleton] at h
    subst h
    exact ⟨rfl, fun q hq => by cases hq⟩
  | k + 1, g, h => by
    simp only [gwsN, nxtW, List.take_length, List.mem_flatMap, extW, List.mem_map] at h
    obtain ⟨g', hg', q, hq, rfl⟩ := h
    obtain ⟨h1, h2⟩ := gwsN_word s k g' hg'
    refine ⟨by simp [h1], fun p hp => ?_⟩
    rcases List.mem_append.1 hp with hp | hp
    · exact h2 p hp
    · rw [List.mem_singleton.1 hp]
      have := numT_mem hq
      exact ⟨this.1, this.2.1, by have := this.2.2; omega⟩

set_option maxRecDepth 100000 in
theorem clone_any (v : Value) (xs : List Int) (hx : xs.length ≤ 1000000) (B2 : Nat) (w : World) (hO : OwnI w B2 v xs) :
    Calls Try.prog 111 #[v] w fun e w' => ∃ v', e = .returned v' ∧ Below w.heap.size w w' ∧ OwnI w' w.heap.size v' xs := by
  obtain ⟨i0, hi, hz0, hz1, hz2⟩ := info_parts Try.info2
  have hM0 := (Mm.start w).newOwn #[] 2 0 rfl (by omega)
  have HO := Lib.hid (hO.below ((Below.refl _ w).alloc (Nat.le_refl _) (.cells #[] 2)))
  have hxl : (i64s xs).length ≤ 1000000 := by simpa [i64s] using hx
  have q26 : ∀ (w : World) (a : Option Addr) (n c : Nat), (binOp .eql 26 (.slice a n c) (.slice none 0 0)).run Try.prog w = .ok (.bool a.isNone) w := fun w a n c => Lib.run_eql_slice_nil w _ _ a n c 0 0 Try.underlying26
  rcases id hO.2 with ⟨rfl, h0⟩ | ⟨g, cap, cur, rfl, -⟩
  · have hxs : xs = [] := List.eq_nil_of_length_eq_zero h0
    subst hxs
    clear hM0 HO hxl hO h0
    go_enter Try.func111, Try.ntmps111
    go_wp2_with fail
    go_ret
    exact ⟨_, rfl, Below.refl _ _, OwnI.nil _ _⟩
  · clear hO
    go_enter Try.func111, Try.ntmps111
    go_wp2_with (at_builtin; refine Mm.appendRow rfl (.tmp 5) (.tmp 6) 26 rfl hM0 0 rfl Try.underlying26 hi hz0 hz1 hz2 rfl rfl rfl (n := xs.length) (by simp [i64s]) HO.out (fun y hy => by obtain ⟨x, -, rfl⟩ := List.mem_map.1 hy; rfl) (by simp) hxl (by omega) ?_)
    intro v' w3 hM3
    have HM3 : Hid (Mm w.heap.size w w3 [] [(v', 2, i64s xs)]) := by show Mm _ _ _ _ _; simpa using hM3
    clear hM0 hM3 HO
    go_wp2_with fail
    go_ret
    exact ⟨_, rfl, HM3.out.below, OwnI.of_row (HM3.out.own _ (List.mem_cons_self ..))⟩
end Go.Proofs.Yteagecoiijhflaa

/- slices.Backward's iterator; inverseOf of the program. -/
namespace Go.Proofs.Yteagecoiijhflaa
open Go.RowKit
set_option linter.unusedVariables false
set_option linter.unusedSimpArgs false
attribute [local go_sem] Oper.semAt_some

/-- what has come when k rounds are over -/
def uptoB {α : Type} (f : Nat → α) (k : Nat) : List α := (List.range k).map f
theorem uptoB_succ {α : Type} (f : Nat → α) (k : Nat) : uptoB f (k + 1) = uptoB f k ++ [f k] := by simp [uptoB, List.range_succ]
theorem uptoB_length {α : Type} (f : Nat → α) (k : Nat) : (uptoB f k).length = k := by simp [uptoB]
/-- a row from behind -/
def bkw (zs : List Int) (j : Nat) : Nat × Int := (zs.length - 1 - j, zs[zs.length - 1 - j]?.getD 0)
theorem bkw_all (zs : List Int) : ((uptoB (bkw zs) zs.length).map fun p => -p.2) = zs.reverse.map fun k => -k := by
  apply List.ext_getElem
  · simp [uptoB]
  · intro i h1 h2
    have hi : i < zs.length := by simpa [uptoB] using h1
    simp only [uptoB, List.getElem_map, List.getElem_range, bkw, List.getElem_reverse]
    rw [List.getElem?_eq_getElem (by omega), Option.getD_some]

/-- what a round keeps: all below, and the box of the row -/
def KpB (n₀ Bs : Nat) (W W' : World) : Prop := Below n₀ W W' ∧ W'.heap[Bs]? = W.heap[Bs]?
theorem kpB_t {n₀ Bs : Nat} {A B C : World} (h : KpB n₀ Bs A B) (k : KpB n₀ Bs B C) : KpB n₀ Bs A C := ⟨h.1.trans k.1, k.2.trans h.2⟩
theorem kpB_b {n₀ Bs : Nat} {w : World} (hn : n₀ ≤ w.heap.size) (hB : Bs < w.heap.size) (W : World) (l : Nat) (o o' : Obj) (hl : w.heap.size ≤ l) (h : W.heap[l]? = some o) (h1 : o.isCells = false) (h2 : o.isWalk = false) : KpB n₀ Bs W (W.putObj l o') :=
  ⟨belowK_b hn W l o o' hl h h1 h2, World.putObj_heap_other (by omega)⟩

set_option maxRecDepth 100000 in
set_option maxHeartbeats 2000000 in
theorem back1_in (F : Fence) (n : Nat) (h7 : F.fn 161) (hro : F.round = none) (hn : 1 ≤ n) (l Bs n₀ b off cap : Nat) (zs : List Int) (hreach : zs.length ≤ 1000000) (hb : b < n₀) (J Jx : List (Nat × Int) → World → Prop)
    (hY : ∀ pre x W, J pre W → pre.length < zs.length → YieldAt F (n - 1) Try.prog l #[.int .i64 (x.1 : Int), .int .i64 x.2] W fun e W' =>
      (e = .returned (.bool true) ∧ J (pre ++ [x]) W' ∧ KpB n₀ Bs W W') ∨ (e = .returned (.bool false) ∧ Jx (pre ++ [x]) W'))
    (W : World) (hBs : W.cell? ⟨Bs, 0, none⟩ = some (.slice (some ⟨b, off, none⟩) zs.length cap)) (hc : ∀ j, j < zs.length → W.cell? ⟨b, off + j, none⟩ = some (.int .i64 (zs[j]?.getD 0))) (h0 : J [] W) :
    CallsIn F n Try.prog 161 #[.func (.yield l) #[] #[], .pointer (some ⟨Bs, 0, none⟩)] W fun e W' => (∃ v, e = .returned v) ∧
      ((∃ ys, ys = uptoB (bkw zs) zs.length ∧ J ys W') ∨ (∃ pre, (∃ k, k ≤ zs.length ∧ pre = uptoB (bkw zs) k) ∧ Jx pre W')) := by
  refine callsIn_of_wp Try.func161 rfl h7 ?_ hro
  simp only [Try.ntmps161, List.size_toArray, List.length_cons, List.length_nil, Nat.reduceAdd, Nat.reduceSub, Array.replicate_succ, Array.replicate_zero, List.push_toArray, List.append_toArray, List.nil_append, List.cons_append]
  have e0 : IntKind.i64.wrap ((zs.length : Int) - 1) = (zs.length : Int) - 1 := IntWalk.i64_in _ (by omega)
  gi_wp2
  gi_loopw [3] (fun i wr => ∃ (k : Nat) (z : Int), k ≤ zs.length ∧ z = (zs.length : Int) - 1 - k ∧ i = .int .i64 z ∧ J (uptoB (bkw zs) k) wr ∧ KpB n₀ Bs W wr) (fun i _ => (intOf i + 1).toNat)
  case atStart => exact ⟨0, _, Nat.zero_le _, by simp, rfl, h0, Below.refl _ _, rfl⟩
  case round =>
    obtain ⟨k, z, hk, hz, rfl, hJs, hnx⟩ := hrel
    by_cases hlt : k < zs.length
    · obtain ⟨q, rfl⟩ : ∃ q : Nat, z = (q : Int) := ⟨zs.length - 1 - k, by omega⟩
      have hq : q = zs.length - 1 - k := by omega
      have hcx : wr.cell? ⟨b, off + q, none⟩ = some (.int .i64 (zs[q]?.getD 0)) := (hnx.1.cell (p := ⟨b, off + q, none⟩) hb).trans (hc q (by omega))
      have hBw : wr.cell? ⟨Bs, 0, none⟩ = some (.slice (some ⟨b, off, none⟩) zs.length cap) := (World.cell?_of_block (w := W) (a := ⟨Bs, 0, none⟩) hnx.2).trans hBs
      obtain ⟨fn, tmps, assign, body, hy, hR⟩ := hY _ (q, zs[q]?.getD 0) wr hJs (by rw [uptoB_length]; exact hlt)
      dsimp only at hy
      have hU : uptoB (bkw zs) (k + 1) = uptoB (bkw zs) k ++ [(q, zs[q]?.getD 0)] := by rw [uptoB_succ, hq]; rfl
      have i1 : (q : Int) < (zs.length : Int) := by omega
      have i2 : (0 : Int) ≤ (q : Int) := by omega
      have e1 : IntKind.i64.wrap ((q : Int) - 1) = (q : Int) - 1 := IntWalk.i64_in _ (by omega)
      have HZ := Lib.hid hz
      clear hq hz
      gi_wp2
      refine hR.mono ?_
      rintro e W3 (⟨rfl, hJ3, hk3⟩ | ⟨rfl, hJx3⟩)
      · gi_wp2
        go_roundw
        case rel => exact ⟨k + 1, (q : Int) - 1, by omega, by have := HZ.out; omega, rfl, by rw [hU]; exact hJ3, kpB_t hnx hk3⟩
        case measure => simp [intOf] <;> omega
      · gi_wp2
        refine bodyPost_ret (results_none rfl _ _ _) rfl ?_
        exact ⟨⟨_, rfl⟩, .inr ⟨_, ⟨k + 1, by omega, hU.symm⟩, hJx3⟩⟩
    · obtain rfl : k = zs.length := by omega
      have hz' : z = -1 := by omega
      subst hz'
      gi_wp2
      go_end0
      exact ⟨⟨_, rfl⟩, .inl ⟨_, rfl, hJs⟩⟩

set_option maxRecDepth 100000 in
set_option maxHeartbeats 1000000 in
theorem back_in (F : Fence) (n : Nat) (h5 : F.fn 153) (hro : F.round = none) (a : Option Addr) (len cap : Nat) (w : World) :
    CallsIn F n Try.prog 153 #[.slice a len cap] w fun e w' => e = .returned (.func (.func 161) #[] #[.pointer (some ⟨w.heap.size, 0, none⟩)]) ∧ w' = w.alloc (.cells #[.slice a len cap] 26) := by
  refine callsIn_of_wp Try.func153 rfl h5 ?_ hro
  simp only [Try.ntmps153, List.size_toArray, List.length_cons, List.length_nil, Nat.reduceAdd, Nat.reduceSub, Array.replicate_succ, Array.replicate_zero, List.push_toArray, List.append_toArray, List.nil_append, List.cons_append]
  gi_wp2
  go_ret
  exact ⟨rfl, rfl⟩

/-- the iterator's contract, at a row of numbers that is not nil -/
theorem back_stops (F : Fence) (n : Nat) (h7 : F.fn 161) (hro : F.round = none) (hn : 1 ≤ n) (Bs n₀ b off cap : Nat) (zs : List Int) (hreach : zs.length ≤ 1000000) (w : World) (hBs : Bs < w.heap.size) (hb : b < n₀) (hn₀ : n₀ ≤ w.heap.size)
    (hc : w.cell? ⟨Bs, 0, none⟩ = some (.slice (some ⟨b, off, none⟩) zs.length cap)) (hI : ∀ j, j < zs.length → w.cell? ⟨b, off + j, none⟩ = some (.int .i64 (zs[j]?.getD 0))) :
    SeqStopsK F n Try.prog 161 #[.pointer (some ⟨Bs, 0, none⟩)] (fun x : Nat × Int => #[Value.int .i64 (x.1 : Int), Value.int .i64 x.2]) (KpB n₀ Bs) (fun ys => ys = uptoB (bkw zs) zs.length)
      (fun pre => ∃ k, k ≤ zs.length ∧ pre = uptoB (bkw zs) k) zs.length w := fun l J Jx W hW _ _ hY h0 =>
  back1_in F n h7 hro hn l Bs n₀ b off cap zs hreach hb J Jx hY W ((hW.cell (p := ⟨Bs, 0, none⟩) hBs).trans hc) (fun j hj => (hW.cell (p := ⟨b, off + j, none⟩) (by simp only; omega)).trans (hI j hj)) h0

/-- 'make([]int64, 0, n)' -/
theorem mk0I (n : Nat) (hn : n ≤ 2000000) (u : World) : (Instr.makeSlice 26 (.int .i64 0) (.int .i64 (n : Int))).run Try.prog u =
    .ok (.slice (some ⟨u.heap.size, 0, none⟩) 0 n) (u.alloc (.cells (madeCells #[.int .i64 0] n) 2)) := by
  obtain ⟨i0, hi, hz0, hz1, hz2⟩ := info_parts Try.info2
  have h := run_make (P := Try.prog) u 26 2 i0 (.int .i64 0) Try.underlying26 hi hz0 .i64 .i64 0 (n : Int) (by omega) (by omega) (by rw [hz2]; omega) (by omega)
  simpa [hz1, Value.cells] using h
theorem own0I (n : Nat) (hn : n ≤ 2000000) (u : World) : (u.alloc (.cells (madeCells #[.int .i64 0] n) 2)).ownsRow u.heap.size 2 1 (.slice (some ⟨u.heap.size, 0, none⟩) 0 n) 0 [] := by
  refine ⟨rfl, .inr ⟨u.heap.size, n, madeCells #[.int .i64 0] n, rfl, Nat.le_refl _, World.alloc_heap_new u _, Nat.zero_le _, by simp [maxLen]; omega, by simp [madeCells], by simp⟩⟩

set_option maxRecDepth 100000 in
set_option maxHeartbeats 2000000 in
theorem inverseOf_in (F : Fence) (n : Nat) (h3 : F.fn 138) (h4 : F.fn 153) (h5 : F.fn 161) (hro : F.round = none) (hn : 3 ≤ n) (b off cap : Nat) (g : Wd) (hl : g.length ≤ 1000) (hg : ∀ k ∈ g, -1000 ≤ k ∧ k ≤ 1000) (w : World)
    (hb : b < w.heap.size) (hc : ∀ j, j < g.length → w.cell? ⟨b, off + j, none⟩ = some (.int .i64 (g[j]?.getD 0))) :
    CallsIn F n Try.prog 138 #[.slice (some ⟨b, off, none⟩) g.length cap] w fun e W' => ∃ v, e = .returned v ∧ OwnI W' w.heap.size v (g.reverse.map fun k => -k) ∧ Below w.heap.size w W' := by
  have h1 : 1 ≤ n := by omega
  obtain ⟨i0, hi, hz0, hz1, hz2⟩ := info_parts Try.info2
  have hmk := mk0I g.length (by omega)
  refine callsIn_of_wp_marks Try.func138 rfl h3 ?_ hro
  simp only [Try.ntmps138, List.size_toArray, List.length_cons, List.length_nil, Nat.reduceAdd, Nat.reduceSub, Array.replicate_succ, Array.replicate_zero, List.push_toArray, List.append_toArray, List.nil_append, List.cons_append]
  gi_wp2_with (gi_at_call 153; refine (back_in F (n - 1) h4 hro _ _ _ _).mono ?_; rintro e w' ⟨rfl, rfl⟩)
  have hmb : Below w.heap.size w (w.alloc (.cells (madeCells #[.int .i64 0] g.length) 2)) := (Below.refl w.heap.size w).alloc (Nat.le_refl _) (.cells (madeCells #[.int .i64 0] g.length) 2)
  have hr0 := own0I g.length (by omega) w
  have hr1 := (hr0.alloc (.cells #[.slice (some ⟨w.heap.size, 0, none⟩) 0 g.length] 26)).alloc (.cells #[.slice (some ⟨b, off, none⟩) g.length cap] 26)
  have bO := (Boxed.new (w.alloc (.cells (madeCells #[.int .i64 0] g.length) 2)) 26 (.slice (some ⟨w.heap.size, 0, none⟩) 0 g.length)).alloc (.cells #[.slice (some ⟨b, off, none⟩) g.length cap] 26)
  have bS := Boxed.new ((w.alloc (.cells (madeCells #[.int .i64 0] g.length) 2)).alloc (.cells #[.slice (some ⟨w.heap.size, 0, none⟩) 0 g.length] 26)) 26 (.slice (some ⟨b, off, none⟩) g.length cap)
  have hB0 : Below w.heap.size w (((w.alloc (.cells (madeCells #[.int .i64 0] g.length) 2)).alloc (.cells #[.slice (some ⟨w.heap.size, 0, none⟩) 0 g.length] 26)).alloc (.cells #[.slice (some ⟨b, off, none⟩) g.length cap] 26)) := (hmb.alloc (by simp) _).alloc (by simp; omega) _
  rw [World.size_alloc] at bO
  rw [World.size_alloc, World.size_alloc] at bS
  obtain ⟨W0, hW0⟩ : ∃ W0, W0 = (((w.alloc (.cells (madeCells #[.int .i64 0] g.length) 2)).alloc (.cells #[.slice (some ⟨w.heap.size, 0, none⟩) 0 g.length] 26)).alloc (.cells #[.slice (some ⟨b, off, none⟩) g.length cap] 26)) := ⟨_, rfl⟩
  have hs0 : W0.heap.size = w.heap.size + 1 + 1 + 1 := by rw [hW0]; simp
  rw [← hW0] at bO bS hr1 hB0 ⊢
  clear hW0 hmb hr0 hmk
  refine wpIn_rangeFunc_ownG hro h1 (gf := 161) (lb := #[.pointer (some ⟨w.heap.size + 1 + 1, 0, none⟩)]) rfl h5 (enters_of Try.func161 (by kernel_rfl) rfl)
    (back_stops F (n - 1) h5 hro (by omega) (w.heap.size + 1 + 1) w.heap.size b off cap g (by omega) W0 (by omega) hb (by omega) bS.cell (fun j hj => (hB0.cell (p := ⟨b, off + j, none⟩) hb).trans (hc j hj))) kpB_t (kpB_b (by omega) (by omega)) (Below.refl _ _) (fun _ => rfl)
    (fun pre W => (∃ v, Boxed W (w.heap.size + 1) 26 v ∧ W.ownsRow w.heap.size 2 1 v pre.length (i64s (pre.map fun p => wrap64 (-p.2))) ∧ True) ∧ (Boxed W (w.heap.size + 1 + 1) 26 (.slice (some ⟨b, off, none⟩) g.length cap) ∧ Below w.heap.size w W))
    (fun _ _ _ => False)
    (OwnFrom.and (Own.from (holdsRow_own w.heap.size (w.heap.size + 1) 26 2 1 (fun pre : List (Nat × Int) => pre.length) (fun pre => i64s (pre.map fun p => wrap64 (-p.2))) (fun _ _ => True)) _) (OwnFrom.and (Own.from (boxed_own _ _ _) _) (ownFrom_below (Nat.le_refl _) (by omega))))
    (fun _ _ _ _ _ hs _ _ => hs)
    ⟨⟨_, bO, hr1, trivial⟩, bS, hB0⟩
    (fun x => { tmps := #[.slice (some ⟨b, off, none⟩) g.length cap, undef, .slice none 0 0, .pointer (some ⟨w.heap.size + 1, 0, none⟩), undef, .int .i64 x.2, .slice (some ⟨b, off, none⟩) g.length cap, .int .i64 (g.length : Int), .slice (some ⟨w.heap.size, 0, none⟩) 0 g.length, .slice (some ⟨b, off, none⟩) g.length cap, .func (.func 161) #[] #[.pointer (some ⟨w.heap.size + 1 + 1, 0, none⟩)], .int .i64 (x.1 : Int), .int .i64 x.2, undef, undef, undef, undef, undef, undef], defers := [] }) ?assign ?body ?done ?stop
  case assign =>
    intro l x W K hK
    gi_wp2
    exact hK
  case body =>
    rintro l pre x W ⟨⟨v, hv, hrow, -⟩, hS, hB⟩ hlt
    have hc := hv.cell
    gi_wp2_with (gi_at_builtin; refine wpListIn_append_own _ rfl _ _ 26 rfl w.heap.size 2 i0 (.int .i64 0) 1 8 Try.underlying26 hi hz0 hz1 hz2 rfl (by decide) _ _ _ rfl (hrow.alloc _) ⟨W.heap.size, 0, none⟩ 1 1 [.int .i64 (wrap64 (-x.2))] rfl rfl (cell_one_new _ _ _) (by simp [Value.oneCell']) (by simp [maxLen]; omega) (by omega) (by have := hB.size; simp; omega) ?_; intro v' w1 hown' hgrow _; obtain ⟨g', cap', rfl⟩ := ownsRow_succ hown'; obtain ⟨hv1, hv2, hr2, hk2, hb2⟩ := hv.appended (by decide) hrow hB.size (by omega) hown' hgrow; have hS1 := ((hS.alloc _).kept hgrow (hS.not_row (by decide) hrow)).other (B' := w.heap.size + 1) (by omega) (.slice (some ⟨g', 0, none⟩) (pre.length + 1) cap'); have hc1 := hv1.cell; have hf1 := hv1.frozen)
    exact ⟨hk2.from _, ⟨hb2, hS1.trans hS.symm⟩, ⟨_, hv2, by simpa [i64s] using hr2, trivial⟩, hS1, hB.trans hb2⟩
  case done =>
    rintro D ys W hD rfl ⟨⟨v, hv, hrow, -⟩, hS, hB⟩ hK
    have hc := hv.cell
    gi_wp2
    refine ⟨by simp, .inl ⟨_, _, rfl, run_takeDeferred hK, ?_⟩⟩
    have hfin : (uptoB (bkw g) g.length).map (fun p => wrap64 (-p.2)) = g.reverse.map fun k => -k := by
      rw [← bkw_all]
      refine List.map_congr_left fun p hp => ?_
      obtain ⟨j, hj, rfl⟩ := List.mem_map.1 hp
      have hj' : j < g.length := by simpa using hj
      have : g[g.length - 1 - j]?.getD 0 ∈ g := by rw [List.getElem?_eq_getElem (by omega), Option.getD_some]; exact List.getElem_mem _
      have := hg _ this
      simp only [bkw]
      unfold wrap64; omega
    refine ⟨_, results_tmp rfl _ _ _, v, rfl, ?_, hB.trans (belowK_b (w := w) (Nat.le_refl _) W D _ _ (by omega) hK rfl rfl)⟩
    have h := ownsRow_putObj hrow (.deferred none) hK rfl
    rw [hfin] at h
    show World.ownsRow _ _ _ _ _ _ _
    rw [uptoB_length] at h
    simpa using h
  case stop =>
    rintro D c pre W _ _ h _
    exact h.elim
theorem inverseOf_any (a : Option Addr) (c : Nat) (g : Wd) (h0 : 0 < g.length) (hl : g.length ≤ 1000) (hg : ∀ k ∈ g, -1000 ≤ k ∧ k ≤ 1000) (w : World) (hI : IntsAt w a g) :
    Calls Try.prog 138 #[.slice a g.length c] w fun e W' => ∃ v, e = .returned v ∧ OwnI W' w.heap.size v (g.reverse.map fun k => -k) ∧ Below w.heap.size w W' := by
  obtain ⟨b, off, rfl, hc⟩ := hI 0 h0
  refine (callsIn_wide (n := 3)).1 (inverseOf_in Fence.wide 3 trivial trivial trivial rfl (Nat.le_refl _) b off c g hl hg w (World.block_lt_of_cell? w _ hc) (fun j hj => ?_))
  obtain ⟨b', off', e, hc'⟩ := hI j hj
  injection e with e; injection e with e1 e2; subst e1 e2
  exact hc'
end Go.Proofs.Yteagecoiijhflaa

/- slices.Grow of nothing, slices.Concat, areEqual of the program. -/
namespace Go.Proofs.Yteagecoiijhflaa
open Go.RowKit
set_option linter.unusedVariables false
set_option linter.unusedSimpArgs false

set_option maxRecDepth 100000 in
set_option maxHeartbeats 2000000 in
theorem grow0_any (n : Nat) (hn : n ≤ 1000000) (w : World) :
    Calls Try.prog 149 #[.slice none 0 0, .int .i64 (n : Int)] w fun e w' => ∃ v, e = .returned v ∧ Below w.heap.size w w' ∧ OwnI w' w.heap.size v [] := by
  obtain ⟨i0, hi0, hz0, hs0, hb0⟩ := info_parts Try.info2
  have h1 : ¬ ((n : Int) < 0) := by omega
  have h3 : wrap64 (n : Int) = (n : Int) := by unfold wrap64; omega
  by_cases h0 : n = 0
  · subst h0
    go_enter Try.func149, Try.ntmps149
    go_wp2
    go_ret
    exact ⟨_, rfl, Below.refl _ _, OwnI.nil _ _⟩
  · have h4 : (n : Int) > 0 := by omega
    have hold : (Builtin.firstCells i0.size 0 (.slice none 0 0)).run Try.prog w.drew = .ok ([] : List Value).toArray w.drew := run_firstCells_none w.drew i0.size 0 0 0
    have hrz : ∀ ty, (Builtin.append_ #[26, 3] ty #[.slice none 0 0, .int .i64 (n : Int)]).run Try.prog w =
        .ok (.slice (some ⟨w.heap.size, 0, none⟩) n (grownCap w n 0 2)) (w.drew.alloc (.cells (Builtin.zeroCells #[.int .i64 0] n ++ Builtin.zeroCells #[.int .i64 0] (grownCap w n 0 2 - n)) 2)) := fun ty => by
      have h := Lib.run_append_grow_zeros w 26 3 ty 2 i0 _ .i64 .i64 Try.underlying26 Try.underlying3 hi0 hz0 none 0 0 [] hold n (by omega) (by omega) (by omega) (by omega)
        (by rw [hb0]; omega)
        (growslice_fits (by omega) (by rw [hb0]; omega))
      simpa [Value.cells] using h
    have hGn : n ≤ grownCap w n 0 2 := grownCap_ge w _ _ _
    have hGm := grownCap_le_maxLen w n 0 2 (by unfold maxLen; omega)
    obtain ⟨G, hG⟩ : ∃ G, G = grownCap w n 0 2 := ⟨_, rfl⟩
    rw [← hG] at hrz hGn hGm
    have hG63 : G ≤ 9223372036854775807 := by unfold maxLen at hGm; omega
    have hsz : (Builtin.zeroCells #[.int .i64 0] n ++ Builtin.zeroCells #[.int .i64 0] (G - n)).size = G * 1 := by simp [Builtin.zeroCells]; omega
    have HO : Hid (OwnI (w.drew.alloc (.cells (Builtin.zeroCells #[.int .i64 0] n ++ Builtin.zeroCells #[.int .i64 0] (G - n)) 2)) w.heap.size (.slice (some ⟨w.heap.size, 0, none⟩) 0 G) []) :=
      ⟨rfl, .inr ⟨w.heap.size, G, _, rfl, Nat.le_refl _, World.alloc_heap_new w.drew _, Nat.zero_le _, hGm, hsz, by simp [i64s]⟩⟩
    have HB : Hid (Below w.heap.size w (w.drew.alloc (.cells (Builtin.zeroCells #[.int .i64 0] n ++ Builtin.zeroCells #[.int .i64 0] (G - n)) 2))) := by
      have hd : Below w.heap.size w w.drew := ⟨rfl, rfl, rfl, Nat.le_refl _, fun _ _ => rfl⟩
      exact hd.alloc (Nat.le_refl _) _
    clear hold hG hsz hGm
    go_enter Try.func149, Try.ntmps149
    go_wp2_with (at_builtin; refine Lib.wpList_append_run _ rfl _ _ _ _ rfl _ _ rfl rfl _ _ (hrz _) ?_)
    go_ret
    exact ⟨_, rfl, HB.out, HO.out⟩

/-- a slice of rows, each somebody's own -/
def SlO (w : World) (v : Value) (rows : List Wd) : Prop := ∃ b c, v = .slice (some ⟨b, 0, none⟩) rows.length c ∧ ∀ i, i < rows.length → ∃ r B, w.cell? ⟨b, i, none⟩ = some r ∧ OwnI w B r (rows[i]?.getD [])
theorem OwnI.keepW {w w' : World} {B : Nat} {v : Value} {xs : List Int} (h : OwnI w B v xs) (hb : Below w.heap.size w w') : OwnI w' B v xs := h.below hb
theorem flat_succ (rows : List Wd) {i : Nat} (h : i < rows.length) : (rows.take (i + 1)).flatten = (rows.take i).flatten ++ rows[i]?.getD [] := by
  rw [List.take_succ_eq_append_getElem h, List.flatten_append, List.getElem?_eq_getElem h]; simp
theorem flat_len (rows : List Wd) (i : Nat) : (rows.take i).flatten.length = sumLen rows i := by
  rw [List.length_flatten]; rfl

set_option maxRecDepth 100000 in
set_option maxHeartbeats 2000000 in
theorem concat_any (v : Value) (rows : List Wd) (hn : rows.length ≤ 1000) (hl : sumLen rows rows.length ≤ 100000) (w : World) (hS : SlO w v rows) :
    Calls Try.prog 120 #[v] w fun e w' => ∃ v', e = .returned v' ∧ Below w.heap.size w w' ∧ OwnI w' w.heap.size v' rows.flatten := by
  obtain ⟨i0, hi0, hz0, hs0, hb0⟩ := info_parts Try.info2
  have HFL : Hid (rows.flatten = (rows.take rows.length).flatten) := by show _ = _; rw [List.take_length]
  have HGR := Lib.hid (grow0_any (sumLen rows rows.length) (by omega) w)
  obtain ⟨b, c, rfl, hc⟩ := hS
  have HC := Lib.hid hc
  clear hc
  go_enter Try.func120, Try.ntmps120
  go_wp2
  go_loopw [3, 11] (fun s iv wr => ∃ i : Nat, i ≤ rows.length ∧ iv = .int .i64 (i : Int) ∧ s = .int .i64 (sumLen rows i : Int) ∧ wr = w) (fun _ i _ => rows.length - (intOf i).toNat)
  case atStart => exact ⟨0, Nat.zero_le _, rfl, rfl, rfl⟩
  case round =>
    obtain ⟨i, hi, rfl, rfl, rfl⟩ := hrel
    have hsi := sumLen_le rows i
    have ei : IntKind.i64.wrap ((i : Int) + 1) = (i : Int) + 1 := IntWalk.i64_in _ (by omega)
    by_cases hli : i < rows.length
    · obtain ⟨r, B2, cr, hO⟩ := HC.out i hli
      obtain ⟨ar, cr', rfl, -⟩ := hO.form
      have i1 : (0 : Int) ≤ (i : Int) := by omega
      have i2 : (i : Int) < (rows.length : Int) := by omega
      have hss := sumLen_succ rows i hli
      have hs2 := sumLen_le rows (i + 1)
      generalize (rows[i]?.getD []).length = ln at *
      have es : IntKind.i64.wrap ((sumLen rows i : Int) + (ln : Int)) = (sumLen rows i : Int) + (ln : Int) := IntWalk.i64_in _ (by omega)
      have j1 : ¬ (((sumLen rows i : Int) + (ln : Int)) < 0) := by omega
      have HSS := Lib.hid hss
      clear hO hss
      go_wp2
      go_roundw
      case rel => exact ⟨i + 1, by omega, by go_num, by rw [HSS.out]; go_num, trivial⟩
      case measure => simp [intOf] <;> omega
    · have hi' : i = rows.length := by omega
      subst hi'
      have j2 : ¬ ((rows.length : Int) < (rows.length : Int)) := by omega
      obtain ⟨wo, rfl⟩ : ∃ wo, wo = wr := ⟨_, rfl⟩
      go_wp2_with fail
      refine HGR.out.mono ?_
      rintro e w1 ⟨v1, rfl, hb1, hO1⟩
      have hM1 := (Mm.start wo).callOwn hb1 hO1 (by simp [i64s])
      clear HGR hb1 hO1 ei
      go_wp2_with fail
      go_loopw [6, 27] (fun o iv wm => ∃ i : Nat, i ≤ rows.length ∧ iv = .int .i64 (i : Int) ∧ Mm wo.heap.size wo wm [] [(o, 2, i64s (rows.take i).flatten)]) (fun _ i _ => rows.length - (intOf i).toNat)
      case atStart => exact ⟨0, Nat.zero_le _, rfl, hM1⟩
      case round =>
        clear hM1
        obtain ⟨i, hi, rfl, hM⟩ := hrel
        have hsi := sumLen_le rows i
        have hfl := flat_len rows i
        have ei : IntKind.i64.wrap ((i : Int) + 1) = (i : Int) + 1 := IntWalk.i64_in _ (by omega)
        by_cases hli : i < rows.length
        · obtain ⟨r, B2, cr, hO⟩ := HC.out i hli
          have cr := (hM.below.cell (World.block_lt_of_cell? _ _ cr)).trans cr
          have HO := Lib.hid (hO.below hM.below)
          obtain ⟨ar, cr', rfl, -⟩ := hO.form
          have i1 : (0 : Int) ≤ (i : Int) := by omega
          have i2 : (i : Int) < (rows.length : Int) := by omega
          have hss := sumLen_succ rows i hli
          have hs2 := sumLen_le rows (i + 1)
          have HFS := Lib.hid (flat_succ rows hli)
          have hgl : (rows[i]?.getD []).length ≤ 100000 := by omega
          generalize rows[i]?.getD [] = g at *
          generalize (rows.take i).flatten = fl at *
          have hfl2 : (i64s fl).length ≤ 1000000 := by simp only [i64s, List.length_map]; omega
          clear hO hss hfl
          go_wp2_with (at_builtin; refine Mm.appendRow rfl (.tmp 31) (.tmp 32) 26 rfl hM 0 rfl Try.underlying26 hi0 hz0 hs0 hb0 rfl rfl rfl (n := g.length) (by simp [i64s]) HO.out (fun y hy => by obtain ⟨x, -, rfl⟩ := List.mem_map.1 hy; rfl) hfl2 (by simp [i64s]; omega) (by omega) ?_)
          intro v' w3 hM3
          have HM3 : Hid (Mm wo.heap.size wo w3 [] [(v', 2, i64s (rows.take (i + 1)).flatten)]) := by
            show Mm _ _ _ _ _; rw [HFS.out]; simpa [i64s] using hM3
          clear hM hM3 HO
          go_wp2_with fail
          go_roundw
          case rel => exact ⟨i + 1, by omega, by go_num, HM3.out⟩
          case measure => simp [intOf] <;> omega
        · have hi' : i = rows.length := by omega
          subst hi'
          have HO := Lib.hid (OwnI.of_row (hM.own _ (List.mem_cons_self ..)))
          have hb := hM.below
          clear hM
          go_wp2_with fail
          go_ret
          exact ⟨_, rfl, hb, by rw [HFL.out]; exact HO.out⟩

theorem slO_two {w : World} (r1 r2 : Value) (g1 g2 : Wd) (B1 B2 : Nat) (h1 : OwnI w B1 r1 g1) (h2 : OwnI w B2 r2 g2) :
    SlO (w.alloc (.cells #[r1, r2] 26)) (.slice (some ⟨w.heap.size, 0, none⟩) 2 2) [g1, g2] := by
  have hb : Below w.heap.size w (w.alloc (.cells #[r1, r2] 26)) := (Below.refl _ w).alloc (Nat.le_refl _) _
  have hz := Blk.new w #[r1, r2] 26
  refine ⟨_, _, rfl, fun i hi => ?_⟩
  match i, hi with
  | 0, _ => exact ⟨r1, B1, hz.cell' (i := 0) rfl, h1.below hb⟩
  | 1, _ => exact ⟨r2, B2, hz.cell' (i := 1) rfl, h2.below hb⟩
theorem slO_three {w : World} (r1 r2 r3 : Value) (g1 g2 g3 : Wd) (B1 B2 B3 : Nat) (h1 : OwnI w B1 r1 g1) (h2 : OwnI w B2 r2 g2) (h3 : OwnI w B3 r3 g3) :
    SlO (w.alloc (.cells #[r1, r2, r3] 26)) (.slice (some ⟨w.heap.size, 0, none⟩) 3 3) [g1, g2, g3] := by
  have hb : Below w.heap.size w (w.alloc (.cells #[r1, r2, r3] 26)) := (Below.refl _ w).alloc (Nat.le_refl _) _
  have hz := Blk.new w #[r1, r2, r3] 26
  refine ⟨_, _, rfl, fun i hi => ?_⟩
  match i, hi with
  | 0, _ => exact ⟨r1, B1, hz.cell' (i := 0) rfl, h1.below hb⟩
  | 1, _ => exact ⟨r2, B2, hz.cell' (i := 1) rfl, h2.below hb⟩
  | 2, _ => exact ⟨r3, B3, hz.cell' (i := 2) rfl, h3.below hb⟩

def invW (g : Wd) : Wd := g.reverse.map fun k => -k
theorem invW_len (g : Wd) : (invW g).length = g.length := by simp [invW]
theorem invW_gw {m : Mch} {g : Wd} (h : GW m g) : GW m (invW g) := fun k hk => by
  simp only [invW, List.mem_map, List.mem_reverse] at hk
  obtain ⟨q, hq, rfl⟩ := hk
  have := h q hq
  omega
theorem gw_app {m : Mch} {f g : Wd} (h : GW m f) (h' : GW m g) : GW m (f ++ g) := fun k hk => by
  rcases List.mem_append.1 hk with hk | hk
  · exact h k hk
  · exact h' k hk

set_option maxRecDepth 100000 in
set_option maxHeartbeats 2000000 in
theorem areEqual_any (G : Nat) (m : Mch) (hwf : m.Wf) (hok : m.Ok) (u v : Value) (f g : Wd) (B1 B2 : Nat) (hf : GW m f) (hg : GW m g) (h0 : 0 < g.length) (hl : f.length + g.length ≤ 900) (w : World) (hG : GrpR w G m) (hu : OwnI w B1 u f) (hv : OwnI w B2 v g) :
    Calls Try.prog 108 #[.pointer (some ⟨G, 0, none⟩), u, v] w (Ret (.tuple #[.bool (trvR m (f ++ invW g)).1, .int .i64 (trvR m (f ++ invW g)).2]) w) := by
  obtain ⟨a, c, rfl, -⟩ := id hu.form
  obtain ⟨a2, c2, rfl, hI2⟩ := id hv.form
  have hs5 := hok.s_le
  have HI := Lib.hid (inverseOf_any a2 c2 g h0 (by omega) (fun k hk => by have := hg k hk; omega) w hI2)
  have HU := Lib.hid hu
  have HG := Lib.hid hG
  have HGW := Lib.hid (gw_app hf (invW_gw hg))
  have hil := invW_len g
  have hal : (f ++ invW g).length ≤ 900 := by rw [List.length_append]; omega
  clear hu hv hI2 hG hf hg
  go_enter Try.func108, Try.ntmps108
  go_wp2_with fail
  refine HI.out.mono ?_
  rintro e w1 ⟨v1, rfl, hO1, hb1⟩
  change OwnI w1 w.heap.size v1 (invW g) at hO1
  obtain ⟨a1, c1, rfl, -⟩ := id hO1.form
  have HS := Lib.hid (concat_any _ _ (by simp) (by simp [sumLen]; omega) _ (slO_two (w := w1) (.slice a f.length c) (.slice a1 (invW g).length c1) f (invW g) _ _ (HU.out.below hb1) hO1))
  have hba : Below w.heap.size w (w1.alloc (.cells #[.slice a f.length c, .slice a1 (invW g).length c1] 26)) := hb1.alloc hb1.size _
  have HBA := Lib.hid hba
  clear HI hO1 hba hil
  go_wp2_with fail
  refine HS.out.mono ?_
  rintro e w2 ⟨v2, rfl, hb2, hO2⟩
  have e2 : [f, invW g].flatten = f ++ invW g := by simp
  rw [e2] at hO2
  have HB2 := Lib.hid (HBA.out.trans (hb2.mono HBA.out.size))
  obtain ⟨a3, c3, rfl, hI3⟩ := hO2.form
  have HT := Lib.hid (isTrivial_any G m hwf hok a3 _ c3 HGW.out (by omega) w2 (HG.out.keep HB2.out) hI3)
  clear HS hb2 hO2 hI3 e2 hb1 hal
  generalize trvR m (f ++ invW g) = R at *
  generalize f ++ invW g = h at *
  go_wp2_with fail
  refine HT.out.mono ?_
  rintro e w3 ⟨rfl, hb3⟩
  go_wp2_with fail
  go_ret2
  exact ⟨rfl, HB2.out.trans (hb3.mono HB2.out.size)⟩
end Go.Proofs.Yteagecoiijhflaa
