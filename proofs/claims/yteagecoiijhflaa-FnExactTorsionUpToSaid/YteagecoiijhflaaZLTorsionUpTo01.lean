import Derived.Test.YteagecoiijhflaaZLOrderOf19
import Derived.Test.YteagecoiijhflaaZLOrderOf07
import Derived.Lib.SliceRun
/- OrdersOfStates of both sides. -/
namespace Go.Proofs.Yteagecoiijhflaa
open Go.RowKit
set_option linter.unusedVariables false
set_option linter.unusedSimpArgs false

/-- the orders of the first states, or the error -/
def oosR (m : Mch) : Nat → Except Int (List Int)
  | 0 => .ok []
  | i + 1 => match oosR m i with
    | .error c => .error c
    | .ok xs => if resC (ordW m [(i : Int) + 1]) = 0 then .ok (xs ++ [(resN (ordW m [(i : Int) + 1]) : Int)]) else .error (resC (ordW m [(i : Int) + 1]) : Int)
def oosI (m : Mch) : List Int × Int := match machP m with
  | false => ([], 1)
  | true => match oosR m m.s with
    | .error c => ([], c)
    | .ok xs => (xs, 0)
theorem oosR_len (m : Mch) : ∀ (i : Nat) (xs : List Int), oosR m i = .ok xs → xs.length = i
  | 0, xs, h => by simp only [oosR] at h; injection h with h; subst h; rfl
  | i + 1, xs, h => by
    simp only [oosR] at h
    split at h
    · cases h
    · rename_i ys hy
      split at h
      · injection h with h; subst h; simp [oosR_len m i ys hy]
      · cases h
theorem oosR_err {m : Mch} {c : Int} {i : Nat} (h : oosR m i = .error c) : ∀ j, i ≤ j → oosR m j = .error c
  | 0, hj => by obtain rfl : i = 0 := by omega
                exact h
  | j + 1, hj => by
    by_cases e : i = j + 1
    · subst e; exact h
    · rw [oosR, oosR_err h j (by omega)]
theorem oosR_bad {m : Mch} {i : Nat} {xs : List Int} (h : oosR m i = .ok xs) (hc : resC (ordW m [(i : Int) + 1]) ≠ 0) : oosR m (i + 1) = .error (resC (ordW m [(i : Int) + 1]) : Int) := by
  rw [oosR, h]; simp only; rw [if_neg hc]
theorem oosR_ok {m : Mch} {i : Nat} {xs : List Int} (h : oosR m i = .ok xs) (hc : resC (ordW m [(i : Int) + 1]) = 0) : oosR m (i + 1) = .ok (xs ++ [(resN (ordW m [(i : Int) + 1]) : Int)]) := by
  rw [oosR, h]; simp only; rw [if_pos hc]
theorem oosI_len (m : Mch) : (oosI m).1.length ≤ 100000 := by
  unfold oosI
  split
  · simp
  · rename_i h
    have := (mach_ok h).s_le
    split
    · simp
    · rename_i xs hx; have := oosR_len m _ _ hx; show xs.length ≤ 100000; omega
theorem gw_one {m : Mch} {i : Nat} (h : i < m.s) : GW m [(i : Int) + 1] := fun k hk => by
  rw [List.mem_singleton.1 hk]; omega
theorem ints_one (w : World) (x : Int) : IntsAt (w.alloc (.cells #[.int .i64 x] 2)) (some ⟨w.heap.size, 0, none⟩) [x] := fun i hi => by
  obtain rfl : i = 0 := by simpa using hi
  exact ⟨w.heap.size, 0, rfl, (Blk.new w #[.int .i64 x] 2).cell' (i := 0) rfl⟩

set_option maxRecDepth 100000 in
set_option maxHeartbeats 2000000 in
theorem specOrdersOfStates_any (m : Mch) (hwf : m.Wf) (w : World) :
    Calls Try.prog 30 #[.agg m.cells.toArray] w (RetI (oosI m).1 (oosI m).2 w) := by
  have hM0 := (Mm.start w).alloc m.cells.toArray 29
  have hm := hM0.mach 0 rfl
  have HIS := Lib.hid (l01Is_any m hwf (w.alloc (.cells m.cells.toArray 29)))
  have HM0 := Lib.hid hM0
  clear hM0
  go_enter Try.func30, Try.ntmps30
  go_wp2_with ((with_reducible refine ld_mach ?_ (.tmp 1) ?_ (w.heap.size) (0) ?_ m hm hwf ?_); exact rfl; exact rfl; exact rfl)
  refine HIS.out.mono ?_
  rintro e w1 ⟨rfl, hb1⟩
  have hM1 := HM0.out.call hb1
  clear HM0 HIS hm hb1
  cases hp : machP m with
  | false =>
    have HD : Hid (oosI m = ([], 1)) := by show _ = _; rw [oosI, hp]
    have hb := hM1.below
    clear hM1 hp
    go_wp2_with fail
    go_ret2
    rw [HD.out]
    exact ⟨_, rfl, hb, OwnI.nil _ _⟩
  | true =>
    have hok := mach_ok hp
    have hs16 := hok.s_le
    have HD : Hid (oosI m = match oosR m m.s with
      | .error c => ([], c)
      | .ok xs => (xs, 0)) := by show _ = _; rw [oosI, hp]
    have HOK := Lib.hid hok
    obtain ⟨i0, hi0, hz0, hz1, hz2⟩ := info_parts Try.info2
    have hM2 := hM1.newOwn #[] 2 0 rfl (by omega)
    clear hp hM1 hok
    go_wp2_with fail
    go_loopw [4, 5] (fun o q wr => ∃ (i : Nat) (xs : List Int), i ≤ m.s ∧ q = .int .i64 ((i : Int) + 1) ∧ Hid (oosR m i = .ok xs) ∧ Mm w.heap.size w wr [(w.heap.size, m.cells, 29)] [(o, 2, i64s xs)]) (fun _ q _ => 17 - (intOf q).toNat)
    case atStart => exact ⟨0, [], Nat.zero_le _, rfl, rfl, hM2⟩
    case round =>
      clear hM2
      obtain ⟨i, xs, hi, rfl, HX, hM⟩ := hrel
      have hm := hM.mach 0 rfl
      have cs := hm.s
      rw [HOK.out.S_eq] at cs
      have hxl := oosR_len m i xs HX.out
      by_cases hlt : i < m.s
      · have j1 : ((i : Int) + 1) ≤ (m.s : Int) := by omega
        have hba : Below wr.heap.size wr (wr.alloc (.cells #[.int .i64 ((i : Int) + 1)] 2)) := (Below.refl _ _).alloc (Nat.le_refl _) _
        have hm2 : MAt (wr.alloc (.cells #[.int .i64 ((i : Int) + 1)] 2)) w.heap.size 0 m := hm.keep hba hwf
        have HSE : Hid (Calls Try.prog 69 #[.agg m.cells.toArray, .slice (some ⟨wr.heap.size, 0, none⟩) 1 1] (wr.alloc (.cells #[.int .i64 ((i : Int) + 1)] 2)) _) := l06Search_any m hwf HOK.out (some ⟨wr.heap.size, 0, none⟩) [(i : Int) + 1] 1 (gw_one hlt) (by simp) _ (ints_one wr _)
        have hMa := hM.call hba
        clear hM hba hm2
        go_wp2_with ((with_reducible refine ld_mach ?_ (.tmp 1) ?_ (w.heap.size) (0) ?_ m hm hwf ?_); exact rfl; exact rfl; exact rfl)
        refine HSE.out.mono ?_
        rintro e w3 ⟨rfl, hb3⟩
        have hM3 := hMa.call hb3
        have hz := Blk.new w3 #[.string ⟨#[]⟩, .int .i64 0] 53
        have f0 := hz.free 0
        have f1 := hz.free 1
        have g0 := hz.cell' (i := 0) rfl
        have g1 := hz.cell' (i := 1) rfl
        have HB := Lib.hid (fun h => oosR_bad HX.out h)
        have HG := Lib.hid (fun h => oosR_ok HX.out h)
        generalize resN (ordW m [(i : Int) + 1]) = rn at *
        generalize resC (ordW m [(i : Int) + 1]) = rc at *
        generalize resS (ordW m [(i : Int) + 1]) = rs at *
        generalize resF (ordW m [(i : Int) + 1]) = rf at *
        clear hMa hb3 HSE hz hm cs
        by_cases hc : rc = 0
        · have HX2 := Lib.hid (HG.out hc)
          subst hc
          have hM4 := hM3.allocO (.cells #[.string rs, .int .i64 (rf : Int)] 53)
          have hsz : (w3.alloc (.cells #[.string rs, .int .i64 (rf : Int)] 53)).heap.size = w3.heap.size + 1 := by simp
          clear hM3 HB HG
          go_wp2_with (at_builtin; refine Mm.appendAt rfl (.tmp 30) (.tmp 32) 26 rfl hM4 0 rfl Try.underlying26 hi0 hz0 hz1 hz2 rfl rfl (w3.heap.size + 1) hsz rfl rfl (by simp [i64s]; omega) (by omega) ?_)
          intro g' cap' w5 hM5
          have HM5 : Hid (Mm w.heap.size w w5 [(w.heap.size, m.cells, 29)] [(.slice (some ⟨g', 0, none⟩) ((i64s xs).length + 1) cap', 2, i64s (xs ++ [(rn : Int)]))]) := by
            show Mm _ _ _ _ _; simpa [i64s] using hM5
          clear hM4 hM5
          go_wp2_with fail
          go_roundw
          case rel => exact ⟨i + 1, xs ++ [(rn : Int)], by omega, by go_num, HX2.out, HM5.out⟩
          case measure => simp [intOf] <;> omega
        · have HX2 : Hid (oosI m = ([], (rc : Int))) := by show _ = _; rw [HD.out, oosR_err (HB.out hc) m.s (by omega)]
          have j2 : ((rc : Int) != 0) = true := by simp; omega
          have HBB : Hid (∀ o, Below w.heap.size w (w3.alloc o)) := fun o => hM3.below.alloc (by have := hM3.size; omega) o
          clear hM3 HB HG
          go_wp2_with fail
          go_ret2
          rw [HX2.out]
          exact ⟨_, rfl, HBB.out _, OwnI.nil _ _⟩
      · have hi' : i = m.s := by omega
        subst hi'
        have HX2 : Hid (oosI m = (xs, 0)) := by show _ = _; rw [HD.out, HX.out]
        have HO := Lib.hid (OwnI.of_row (hM.own _ (List.mem_cons_self ..)))
        have hb := hM.below
        clear hM
        go_wp2_with fail
        go_ret2
        rw [HX2.out]
        exact ⟨_, rfl, hb, HO.out⟩

set_option maxRecDepth 100000 in
set_option maxHeartbeats 2000000 in
theorem implOrdersOfStates_any (m : Mch) (hwf : m.Wf) (w : World) :
    Calls Try.prog 31 #[.agg m.cells.toArray] w (RetI (oosI m).1 (oosI m).2 w) := by
  have hM0 := (Mm.start w).alloc m.cells.toArray 29
  have hm := hM0.mach 0 rfl
  have HIS := Lib.hid (IsMachine_any m hwf (w.alloc (.cells m.cells.toArray 29)))
  have HM0 := Lib.hid hM0
  clear hM0
  go_enter Try.func31, Try.ntmps31
  go_wp2_with ((with_reducible refine ld_mach ?_ (.tmp 1) ?_ (w.heap.size) (0) ?_ m hm hwf ?_); exact rfl; exact rfl; exact rfl)
  refine HIS.out.mono ?_
  rintro e w1 ⟨rfl, hb1⟩
  have hM1 := HM0.out.call hb1
  clear HM0 HIS hm hb1
  cases hp : machP m with
  | false =>
    have HD : Hid (oosI m = ([], 1)) := by show _ = _; rw [oosI, hp]
    have hb := hM1.below
    clear hM1 hp
    go_wp2_with fail
    go_ret2
    rw [HD.out]
    exact ⟨_, rfl, hb, OwnI.nil _ _⟩
  | true =>
    have hok := mach_ok hp
    have hs16 := hok.s_le
    have HD : Hid (oosI m = match oosR m m.s with
      | .error c => ([], c)
      | .ok xs => (xs, 0)) := by show _ = _; rw [oosI, hp]
    have HOK := Lib.hid hok
    obtain ⟨i0, hi0, hz0, hz1, hz2⟩ := info_parts Try.info2
    have hm1 := hM1.mach 0 rfl
    have HNG := Lib.hid (newGroup_any m hwf hok w1)
    clear hp hok
    go_wp2_with ((with_reducible refine ld_mach ?_ (.tmp 1) ?_ (w.heap.size) (0) ?_ m hm1 hwf ?_); exact rfl; exact rfl; exact rfl)
    refine HNG.out.mono ?_
    rintro e w2 ⟨G, rfl, hb2, hG⟩
    have hMw := hM1.call hb2
    have cs := (hMw.mach 0 rfl).s
    rw [HOK.out.S_eq] at cs
    have HG := Lib.hid hG
    have HBW := Lib.hid hMw.below
    have HSZ := Lib.hid hMw.size
    have hM2 := (Mm.start w2).addNil 2
    clear hM1 hm1 HNG hG hb2 hMw
    go_wp2_with fail
    clear cs
    go_loopw [5, 17] (fun o q wr => ∃ (i : Nat) (xs : List Int), i ≤ m.s ∧ q = .int .i64 (i : Int) ∧ Hid (oosR m i = .ok xs) ∧ Mm w2.heap.size w2 wr [] [(o, 2, i64s xs)]) (fun _ q _ => 17 - (intOf q).toNat)
    case atStart => exact ⟨0, [], Nat.zero_le _, rfl, rfl, hM2⟩
    case round =>
      clear hM2
      obtain ⟨i, xs, hi, rfl, HX, hM⟩ := hrel
      have hxl := oosR_len m i xs HX.out
      by_cases hlt : i < m.s
      · have j1 : (i : Int) < (m.s : Int) := by omega
        have e9 : IntKind.i64.wrap ((i : Int) + 1) = (i : Int) + 1 := IntWalk.i64_in _ (by omega)
        have hba : Below wr.heap.size wr (wr.alloc (.cells #[.int .i64 ((i : Int) + 1)] 2)) := (Below.refl _ _).alloc (Nat.le_refl _) _
        have hMa := hM.call hba
        have HSE : Hid (Calls Try.prog 70 #[.pointer (some ⟨G, 0, none⟩), .slice (some ⟨wr.heap.size, 0, none⟩) 1 1] (wr.alloc (.cells #[.int .i64 ((i : Int) + 1)] 2)) _) := gorder_any m hwf HOK.out G (some ⟨wr.heap.size, 0, none⟩) [(i : Int) + 1] 1 (gw_one hlt) (by simp) _ (HG.out.keep hMa.below) (ints_one wr _)
        clear hM hba
        go_wp2_with fail
        refine HSE.out.mono ?_
        rintro e w3 ⟨rs, rf, rfl, hb3, -⟩
        have hM3 := hMa.call hb3
        have hz := Blk.new w3 #[.string ⟨#[]⟩, .int .i64 0] 53
        have f0 := hz.free 0
        have f1 := hz.free 1
        have g0 := hz.cell' (i := 0) rfl
        have g1 := hz.cell' (i := 1) rfl
        have HB := Lib.hid (fun h => oosR_bad HX.out h)
        have HG2 := Lib.hid (fun h => oosR_ok HX.out h)
        generalize resN (ordW m [(i : Int) + 1]) = rn at *
        generalize resC (ordW m [(i : Int) + 1]) = rc at *
        clear hMa hb3 HSE hz
        by_cases hc : rc = 0
        · have HX2 := Lib.hid (HG2.out hc)
          subst hc
          have hM4 := hM3.allocO (.cells #[.string rs, .int .i64 (rf : Int)] 53)
          have hsz : (w3.alloc (.cells #[.string rs, .int .i64 (rf : Int)] 53)).heap.size = w3.heap.size + 1 := by simp
          clear hM3 HB HG2
          go_wp2_with (at_builtin; refine Mm.appendAt rfl (.tmp 32) (.tmp 34) 26 rfl hM4 0 rfl Try.underlying26 hi0 hz0 hz1 hz2 rfl rfl (w3.heap.size + 1) hsz rfl rfl (by simp [i64s]; omega) (by omega) ?_)
          intro g' cap' w5 hM5
          have HM5 : Hid (Mm w2.heap.size w2 w5 [] [(.slice (some ⟨g', 0, none⟩) ((i64s xs).length + 1) cap', 2, i64s (xs ++ [(rn : Int)]))]) := by
            show Mm _ _ _ _ _; simpa [i64s] using hM5
          clear hM4 hM5
          go_wp2_with fail
          go_roundw
          case rel => exact ⟨i + 1, xs ++ [(rn : Int)], by omega, by go_num, HX2.out, HM5.out⟩
          case measure => simp [intOf] <;> omega
        · have HX2 : Hid (oosI m = ([], (rc : Int))) := by show _ = _; rw [HD.out, oosR_err (HB.out hc) m.s (by omega)]
          have j2 : ((rc : Int) != 0) = true := by simp; omega
          have HBB : Hid (∀ o, Below w.heap.size w (w3.alloc o)) := fun o => (HBW.out.trans (hM3.below.mono HSZ.out)).alloc (by have := hM3.size; have := HSZ.out; omega) o
          clear hM3 HB HG2
          go_wp2_with fail
          go_ret2
          rw [HX2.out]
          exact ⟨_, rfl, HBB.out _, OwnI.nil _ _⟩
      · have hi' : i = m.s := by omega
        subst hi'
        have HX2 : Hid (oosI m = (xs, 0)) := by show _ = _; rw [HD.out, HX.out]
        have j1 : ¬ ((m.s : Int) < (m.s : Int)) := by omega
        have HO := Lib.hid ((OwnI.of_row (hM.own _ (List.mem_cons_self ..))).less HSZ.out)
        have hb := HBW.out.trans (hM.below.mono HSZ.out)
        clear hM
        go_wp2_with fail
        go_ret2
        rw [HX2.out]
        exact ⟨_, rfl, hb, HO.out⟩
end Go.Proofs.Yteagecoiijhflaa

/- All words of so many numbers; slices.Clone; groupWords of the program. -/
namespace Go.Proofs.Yteagecoiijhflaa
open Go.RowKit
set_option linter.unusedVariables false
set_option linter.unusedSimpArgs false

/-- the numbers from -s on, so many but for 0 -/
def numT (s t : Nat) : List Int := ((List.range t).map fun (i : Nat) => (i : Int) - (s : Int)).filter fun q => q != 0
theorem numT_succ (s t : Nat) : numT s (t + 1) = numT s t ++ if (t : Int) - (s : Int) = 0 then [] else [(t : Int) - (s : Int)] := by
  simp only [numT, List.range_succ, List.map_append, List.map_cons, List.map_nil, List.filter_append, List.filter_cons, List.filter_nil]
  congr 1
  by_cases h : (t : Int) - (s : Int) = 0
  · rw [if_pos h, h]; rfl
  · rw [if_neg h, if_pos (by simpa using h)]
theorem numT_len (s t : Nat) : (numT s t).length ≤ t := by
  refine Nat.le_trans (List.length_filter_le _ _) (by simp)
theorem numT_mem {s t : Nat} {q : Int} (h : q ∈ numT s t) : q ≠ 0 ∧ -(s : Int) ≤ q ∧ q < (t : Int) - s := by
  simp only [numT, List.mem_filter, List.mem_map, List.mem_range, bne_iff_ne] at h
  obtain ⟨⟨i, hi, rfl⟩, h0⟩ := h
  exact ⟨h0, by omega, by omega⟩
def extW (s t : Nat) (g : Wd) : List Wd := (numT s t).map fun q => g ++ [q]
theorem extW_zero (s : Nat) (g : Wd) : extW s 0 g = [] := rfl
theorem extW_succ (s t : Nat) (g : Wd) : extW s (t + 1) g = extW s t g ++ if (t : Int) - (s : Int) = 0 then [] else [g ++ [(t : Int) - (s : Int)]] := by
  rw [extW, numT_succ, List.map_append]
  congr 1
  split <;> rfl
theorem extW_len (s t : Nat) (g : Wd) : (extW s t g).length ≤ t := by simp only [extW, List.length_map]; exact numT_len s t
def nxtW (s : Nat) (Q : List Wd) (i : Nat) : List Wd := (Q.take i).flatMap (extW s (2 * s + 1))
theorem nxtW_zero (s : Nat) (Q : List Wd) : nxtW s Q 0 = [] := rfl
theorem nxtW_succ (s : Nat) (Q : List Wd) {i : Nat} (h : i < Q.length) : nxtW s Q (i + 1) = nxtW s Q i ++ extW s (2 * s + 1) (Q[i]?.getD []) := by
  simp only [nxtW, List.take_succ_eq_append_getElem h, List.flatMap_append, List.flatMap_cons, List.flatMap_nil, List.append_nil, List.getElem?_eq_getElem h, Option.getD_some]
theorem nxtW_len (s : Nat) (hs : s ≤ 5) (Q : List Wd) : ∀ i, i ≤ Q.length → (nxtW s Q i).length ≤ 11 * i
  | 0, _ => by simp [nxtW_zero]
  | i + 1, h => by
    have := nxtW_len s hs Q i (by omega)
    rw [nxtW_succ s Q (by omega), List.length_append]
    have := extW_len s (2 * s + 1) (Q[i]?.getD [])
    omega
/-- all words of so many numbers, in order -/
def gwsN (s : Nat) : Nat → List Wd
  | 0 => [[]]
  | k + 1 => nxtW s (gwsN s k) (gwsN s k).length
theorem gwsN_len (s : Nat) (hs : s ≤ 5) : ∀ k, (gwsN s k).length ≤ 11 ^ k
  | 0 => by simp [gwsN]
  | k + 1 => by
    have h1 := gwsN_len s hs k
    have h2 := nxtW_len s hs (gwsN s k) _ (Nat.le_refl _)
    rw [gwsN, Nat.pow_succ]
    omega
theorem gwsN_small (s : Nat) (hs : s ≤ 5) {k : Nat} (hk : k ≤ 4) : (gwsN s k).length ≤ 14641 :=
  Nat.le_trans (gwsN_len s hs k) (Nat.le_trans (Nat.pow_le_pow_right (by omega) hk) (by decide))
theorem gwsN_word (s : Nat) : ∀ (k : Nat) (g : Wd), g ∈ gwsN s k → g.length = k ∧ ∀ q ∈ g, q ≠ 0 ∧ -(s : Int) ≤ q ∧ q ≤ s
  | 0, g, h => by
    simp only [gwsN, List.mem_singleton] at h
    subst h
    exact ⟨rfl, fun q hq => by cases hq⟩
  | k + 1, g, h => by
    simp only [gwsN, nxtW, List.take_length, List.mem_flatMap, extW, List.mem_map] at h
    obtain ⟨g', hg', q, hq, rfl⟩ := h
    obtain ⟨h1, h2⟩ := gwsN_word s k g' hg'
    refine ⟨by simp [h1], fun p hp => ?_⟩
    rcases List.mem_append.1 hp with hp | hp
    · exact h2 p hp
    · rw [List.mem_singleton.1 hp]
      have := numT_mem hq
      exact ⟨this.1, this.2.1, by have := this.2.2; omega⟩

set_option maxRecDepth 100000 in
theorem clone_any (v : Value) (xs : List Int) (hx : xs.length ≤ 1000000) (B2 : Nat) (w : World) (hO : OwnI w B2 v xs) :
    Calls Try.prog 111 #[v] w fun e w' => ∃ v', e = .returned v' ∧ Below w.heap.size w w' ∧ OwnI w' w.heap.size v' xs := by
  obtain ⟨i0, hi, hz0, hz1, hz2⟩ := info_parts Try.info2
  have hM0 := (Mm.start w).newOwn #[] 2 0 rfl (by omega)
  have HO := Lib.hid (hO.below ((Below.refl _ w).alloc (Nat.le_refl _) (.cells #[] 2)))
  have hxl : (i64s xs).length ≤ 1000000 := by simpa [i64s] using hx
  have q26 : ∀ (w : World) (a : Option Addr) (n c : Nat), (binOp .eql 26 (.slice a n c) (.slice none 0 0)).run Try.prog w = .ok (.bool a.isNone) w := fun w a n c => Lib.run_eql_slice_nil w _ _ a n c 0 0 Try.underlying26
  rcases id hO.2 with ⟨rfl, h0⟩ | ⟨g, cap, cur, rfl, -⟩
  · have hxs : xs = [] := List.eq_nil_of_length_eq_zero h0
    subst hxs
    clear hM0 HO hxl hO h0
    go_enter Try.func111, Try.ntmps111
    go_wp2_with fail
    go_ret
    exact ⟨_, rfl, Below.refl _ _, OwnI.nil _ _⟩
  · clear hO
    go_enter Try.func111, Try.ntmps111
    go_wp2_with (at_builtin; refine Mm.appendRow rfl (.tmp 5) (.tmp 6) 26 rfl hM0 0 rfl Try.underlying26 hi hz0 hz1 hz2 rfl rfl rfl (n := xs.length) (by simp [i64s]) HO.out (fun y hy => by obtain ⟨x, -, rfl⟩ := List.mem_map.1 hy; rfl) (by simp) hxl (by omega) ?_)
    intro v' w3 hM3
    have HM3 : Hid (Mm w.heap.size w w3 [] [(v', 2, i64s xs)]) := by show Mm _ _ _ _ _; simpa using hM3
    clear hM0 hM3 HO
    go_wp2_with fail
    go_ret
    exact ⟨_, rfl, HM3.out.below, OwnI.of_row (HM3.out.own _ (List.mem_cons_self ..))⟩
end Go.Proofs.Yteagecoiijhflaa

/- groupWords of the program. -/
namespace Go.Proofs.Yteagecoiijhflaa
open Go.RowKit
set_option linter.unusedVariables false
set_option linter.unusedSimpArgs false

theorem ownII_one (w : World) : OwnII (w.alloc (.cells #[.slice none 0 0] 26)) w.heap.size (.slice (some ⟨w.heap.size, 0, none⟩) 1 1) [[]] := by
  have hM0 := ((Mm.start w).newOwn #[.slice none 0 0] 26 1 rfl (by omega)).addNil 2
  exact OwnII.of (rv := [.slice none 0 0]) (hM0.permG (List.Perm.swap _ _ _)) rfl
/-- a row of a slice of slices: its header's cell, the row -/
theorem OwnII.cell {w : World} {B : Nat} {v : Value} {Q : List Wd} (h : OwnII w B v Q) {i : Nat} (hi : i < Q.length) : ∃ g c r, v = .slice (some ⟨g, 0, none⟩) Q.length c ∧ w.cell? ⟨g, i, none⟩ = some r ∧ OwnI w B r (Q[i]?.getD []) := by
  obtain ⟨rv, hl, hM⟩ := h
  have ho := hM.own _ (List.mem_cons_self ..)
  simp only at ho
  obtain ⟨g, c, e, -, -, hc⟩ := own_form ho (by omega)
  have hr := OwnII.row hl hM hi
  rw [List.getElem?_eq_getElem (by omega : i < rv.length)] at hr
  exact ⟨g, c, rv[i], by rw [e, hl], hc i _ (List.getElem?_eq_getElem (by omega)), hr⟩

set_option maxRecDepth 100000 in
set_option maxHeartbeats 4000000 in
theorem groupWords_any (s k : Nat) (hs : s ≤ 5) (hk : k ≤ 3) (w : World) :
    Calls Try.prog 72 #[.int .i64 (s : Int), .int .i64 (k : Int)] w fun e w' => ∃ v, e = .returned v ∧ Below w.heap.size w w' ∧ OwnII w' w.heap.size v (gwsN s k) := by
  obtain ⟨i0, hi, hz0, hz1, hz2⟩ := info_parts Try.info2
  obtain ⟨j0, hj, hy0, hy1, hy2⟩ := info_parts Try.info26
  have HO1 := Lib.hid (ownII_one w)
  have HBA : Hid (Below w.heap.size w (w.alloc (.cells #[.slice none 0 0] 26))) := (Below.refl _ _).alloc (Nat.le_refl _) _
  go_enter Try.func72, Try.ntmps72
  go_wp2_with fail
  go_loopw [5, 12] (fun o jv wr => ∃ j : Nat, j ≤ k ∧ jv = .int .i64 (j : Int) ∧ Hid (OwnII wr w.heap.size o (gwsN s j)) ∧ Hid (Below w.heap.size w wr)) (fun _ j _ => k - (intOf j).toNat)
  case atStart => exact ⟨0, Nat.zero_le _, rfl, HO1.out, HBA.out⟩
  case round =>
    clear HO1 HBA
    obtain ⟨j, hjk, rfl, HO, HB⟩ := hrel
    obtain ⟨wo, rfl⟩ : ∃ wo, wo = wr := ⟨_, rfl⟩
    by_cases hlt : j < k
    · obtain ⟨ao, co, rfl, -⟩ := id HO.out.sl
      have j1 : (j : Int) < (k : Int) := by omega
      have ej : IntKind.i64.wrap ((j : Int) + 1) = (j : Int) + 1 := IntWalk.i64_in _ (by omega)
      have hQ := gwsN_small s hs (show j ≤ 4 by omega)
      have HG : Hid (gwsN s (j + 1) = nxtW s (gwsN s j) (gwsN s j).length) := rfl
      have HW : Hid (∀ g ∈ gwsN s j, g.length ≤ 3) := fun g hg => by have := (gwsN_word s j g hg).1; omega
      generalize gwsN s j = Q at *
      have hM2 := (Mm.start wo).addNil 26
      go_wp2_with fail
      go_loopw [6, 16] (fun nv iv wm => ∃ (i : Nat) (rv : List Value), i ≤ Q.length ∧ iv = .int .i64 (i : Int) ∧ Hid (rv.length = (nxtW s Q i).length) ∧ Mm wo.heap.size wo wm [] ((nv, 26, rv) :: rowG rv (nxtW s Q i))) (fun _ i _ => Q.length - (intOf i).toNat)
      case atStart => exact ⟨0, [], Nat.zero_le _, rfl, rfl, hM2⟩
      case round =>
        clear hM2
        obtain ⟨i, rv, hi', rfl, HL, hM⟩ := hrel
        obtain ⟨wm, rfl⟩ : ∃ wm, wm = wr := ⟨_, rfl⟩
        by_cases hli : i < Q.length
        · obtain ⟨gq, cq, r, eo, cr, hOr⟩ := HO.out.cell hli
          injection eo with eo1 eo2 eo3
          subst eo1
          obtain ⟨ar, cr', rfl, -⟩ := hOr.form
          have cr := (hM.below.cell (World.block_lt_of_cell? _ _ cr)).trans cr
          have HOr := Lib.hid hOr
          have i1 : (0 : Int) ≤ (i : Int) := by omega
          have i2 : (i : Int) < (Q.length : Int) := by omega
          have ei : IntKind.i64.wrap ((i : Int) + 1) = (i : Int) + 1 := IntWalk.i64_in _ (by omega)
          have en : IntKind.i64.wrap (-(s : Int)) = -(s : Int) := IntWalk.i64_in _ (by omega)
          have HSU := Lib.hid (nxtW_succ s Q hli)
          have hnl := nxtW_len s hs Q i (by omega)
          have hgl : (Q[i]?.getD []).length ≤ 1000000 := by
            rw [List.getElem?_eq_getElem hli, Option.getD_some]
            have := HW.out _ (List.getElem_mem hli); omega
          generalize Q[i]?.getD [] = g at *
          generalize nxtW s Q i = R at *
          clear hOr
          go_wp2_with fail
          clear cr
          go_loopw [6, 9] (fun nv qv wi => ∃ (t : Nat) (rv : List Value), t ≤ 2 * s + 1 ∧ qv = .int .i64 ((t : Int) - (s : Int)) ∧ Hid (rv.length = (R ++ extW s t g).length) ∧ Mm wo.heap.size wo wi [] ((nv, 26, rv) :: rowG rv (R ++ extW s t g))) (fun _ q _ => 2 * s + 1 - (intOf q + s).toNat)
          case atStart => exact ⟨0, rv, Nat.zero_le _, by simp, by rw [extW_zero, List.append_nil]; exact HL.out, by rw [extW_zero, List.append_nil]; exact hM⟩
          case round =>
            clear hM HL
            obtain ⟨t, rv, ht, rfl, HL, hM⟩ := hrel
            have HES := Lib.hid (extW_succ s t g)
            have het := extW_len s t g
            have et : IntKind.i64.wrap ((t : Int) - (s : Int) + 1) = (t : Int) - (s : Int) + 1 := IntWalk.i64_in _ (by omega)
            have hrl : rv.length ≤ 1000000 := by rw [HL.out, List.length_append]; omega
            by_cases hlt2 : t < 2 * s + 1
            · have q1 : ((t : Int) - (s : Int)) ≤ (s : Int) := by omega
              by_cases h0 : (t : Int) - (s : Int) = 0
              · rw [if_pos h0, List.append_nil] at HES
                have q2 : (((t : Int) - (s : Int)) != 0) = false := by simp [h0]
                go_wp2_with fail
                go_roundw
                case rel => exact ⟨t + 1, rv, by omega, by congr 1; omega, by rw [HES.out]; exact HL.out, by rw [HES.out]; exact hM⟩
                case measure => simp [intOf] <;> omega
              · rw [if_neg h0] at HES
                have q2 : (((t : Int) - (s : Int)) != 0) = true := by simpa using h0
                have HCL := Lib.hid (clone_any (.slice ar g.length cr') g hgl w.heap.size wr (HOr.out.below hM.below))
                generalize hqe : (t : Int) - (s : Int) = q at *
                go_wp2_with fail
                refine HCL.out.mono ?_
                rintro e w5 ⟨v5, rfl, hb5, hO5⟩
                have hM5 := hM.callOwn hb5 hO5 (by simp [i64s])
                clear hM HCL hO5 hb5
                go_wp2_with (at_builtin; refine Mm.append rfl (.tmp 31) (.tmp 33) 26 rfl hM5 0 rfl Try.underlying26 hi hz0 hz1 hz2 rfl rfl rfl rfl (by simpa [i64s] using hgl) (by omega) ?_)
                intro g6 c6 w6 hM6
                (try simp only [List.set_cons_zero] at hM6)
                clear hM5
                go_wp2_with (at_builtin; refine Mm.append rfl (.tmp 29) (.tmp 35) 35 rfl hM6 1 rfl Try.underlying35 hj hy0 hy1 hy2 rfl rfl rfl rfl (by omega) (by omega) ?_)
                intro g7 c7 w7 hM7
                (try simp only [List.set_cons_zero, List.set_cons_succ] at hM7)
                have HM7 : Hid (Mm wo.heap.size wo w7 [] ((.slice (some ⟨g7, 0, none⟩) (rv.length + 1) c7, 26, rv ++ [.slice (some ⟨g6, 0, none⟩) ((i64s g).length + 1) c6]) :: rowG (rv ++ [.slice (some ⟨g6, 0, none⟩) ((i64s g).length + 1) c6]) (R ++ extW s (t + 1) g))) := by
                  rw [HES.out, ← List.append_assoc]
                  refine Mm.rowPut (xs := g ++ [q]) ?_ HL.out
                  simpa [i64s] using hM7
                have HL7 : Hid ((rv ++ [Value.slice (some ⟨g6, 0, none⟩) ((i64s g).length + 1) c6]).length = (R ++ extW s (t + 1) g).length) := by
                  show _ = _
                  rw [HES.out, ← List.append_assoc, List.length_append, List.length_append, HL.out]; rfl
                clear hM6 hM7
                go_wp2_with fail
                go_roundw
                case rel => exact ⟨t + 1, _, by omega, by rw [show ((t + 1 : Nat) : Int) - (s : Int) = q + 1 by omega], HL7.out, HM7.out⟩
                case measure => simp [intOf] <;> omega
            · have ht' : t = 2 * s + 1 := by omega
              subst ht'
              have q1 : ¬ ((((2 * s + 1 : Nat) : Int) - (s : Int)) ≤ (s : Int)) := by omega
              rw [← HSU.out] at HL hM
              have HM := Lib.hid hM
              clear hM HES
              go_wp2_with fail
              go_roundw
              case rel => exact ⟨_, _, _, _, ⟨i + 1, by omega, rfl, rv, HL.out, HM.out⟩, rfl, rfl, rfl, by go_num⟩
              case measure => simp [intOf] <;> omega
        · have hi2 : i = Q.length := by omega
          subst hi2
          rw [← HG.out] at HL hM
          have j2 : ¬ ((Q.length : Int) < (Q.length : Int)) := by omega
          have HO2 := Lib.hid ((OwnII.of hM HL.out).less HB.out.size)
          have HB2 := Lib.hid (HB.out.trans (hM.below.mono HB.out.size))
          clear hM
          go_wp2_with fail
          go_roundw
          case rel => exact ⟨j + 1, by omega, by go_num, HO2.out, HB2.out⟩
          case measure => simp [intOf] <;> omega
    · have hj' : j = k := by omega
      subst hj'
      have j1 : ¬ ((j : Int) < (j : Int)) := by omega
      go_wp2_with fail
      go_ret
      exact ⟨_, rfl, HB.out, HO.out⟩
end Go.Proofs.Yteagecoiijhflaa

/- TorsionUpTo of the program. -/
namespace Go.Proofs.Yteagecoiijhflaa
open Go.RowKit
set_option linter.unusedVariables false
set_option linter.unusedSimpArgs false

/-- what stops the search at a word: the code -/
def torW (m : Mch) (g : Wd) : Option Nat := if resC (ordW m g) = 0 ∧ resN (ordW m g) ≠ 0 then none else some (resC (ordW m g))
/-- .. at the words of fewer than so many numbers -/
def torK (m : Mch) : Nat → Option Nat
  | 0 => none
  | k + 1 => match torK m k with
    | some c => some c
    | none => (gwsN m.s k).findSome? (torW m)
def torI (m : Mch) (r : Int) : Bool × Int := match machP m with
  | false => (false, 1)
  | true => match decide (m.s ≤ 5) && inR r 0 3 with
    | false => (false, 2)
    | true => match torK m (r.toNat + 1) with
      | some c => (false, (c : Int))
      | none => (true, 0)
theorem torK_some {m : Mch} {k c : Nat} (h : torK m k = some c) : ∀ j, k ≤ j → torK m j = some c
  | 0, hj => by obtain rfl : k = 0 := by omega
                exact h
  | j + 1, hj => by
    by_cases e : k = j + 1
    · subst e; exact h
    · rw [torK, torK_some h j (by omega)]
theorem fs_none {f : Wd → Option Nat} {Q : List Wd} {i : Nat} (hi : i < Q.length) (h : (Q.take i).findSome? f = none) (hf : f (Q[i]?.getD []) = none) : (Q.take (i + 1)).findSome? f = none := by
  rw [List.getElem?_eq_getElem hi, Option.getD_some] at hf
  rw [List.take_succ_eq_append_getElem hi, List.findSome?_append, h]
  simp [hf]
theorem fs_some {f : Wd → Option Nat} {Q : List Wd} {i c : Nat} (hi : i < Q.length) (h : (Q.take i).findSome? f = none) (hf : f (Q[i]?.getD []) = some c) : Q.findSome? f = some c := by
  rw [List.getElem?_eq_getElem hi, Option.getD_some] at hf
  have e : Q.findSome? f = (Q.take i ++ Q.drop i).findSome? f := by rw [List.take_append_drop]
  rw [e, List.findSome?_append, h, List.drop_eq_getElem_cons hi, List.findSome?_cons, hf]
  rfl
theorem torW_none {m : Mch} {g : Wd} (h1 : resC (ordW m g) = 0) (h2 : resN (ordW m g) ≠ 0) : torW m g = none := if_pos ⟨h1, h2⟩
theorem torW_some {m : Mch} {g : Wd} (h : ¬ (resC (ordW m g) = 0 ∧ resN (ordW m g) ≠ 0)) : torW m g = some (resC (ordW m g)) := if_neg h
theorem gwsN_pos (s : Nat) (hs : 1 ≤ s) : ∀ k, 0 < (gwsN s k).length
  | 0 => by simp [gwsN]
  | k + 1 => by
    have h := gwsN_pos s hs k
    obtain ⟨g, hg⟩ := List.exists_mem_of_length_pos h
    have h1 : g ++ [-(s : Int)] ∈ gwsN s (k + 1) := by
      simp only [gwsN, nxtW, List.take_length, List.mem_flatMap]
      refine ⟨g, hg, ?_⟩
      simp only [extW, List.mem_map]
      refine ⟨-(s : Int), ?_, rfl⟩
      simp only [numT, List.mem_filter, List.mem_map, List.mem_range, bne_iff_ne]
      exact ⟨⟨0, by omega, by simp⟩, by omega⟩
    exact List.length_pos_of_mem h1
theorem gws_gw {m : Mch} {k : Nat} {g : Wd} (h : g ∈ gwsN m.s k) : GW m g := (gwsN_word m.s k g h).2
def RetB (r : Bool × Int) (w : World) (e : Ending) (w' : World) : Prop := e = .returned (.tuple #[.bool r.1, .int .i64 r.2]) ∧ Below w.heap.size w w'

set_option maxRecDepth 100000 in
set_option maxHeartbeats 4000000 in
theorem implTorsionUpTo_any (m : Mch) (hwf : m.Wf) (r : Int) (w : World) :
    Calls Try.prog 35 #[.agg m.cells.toArray, .int .i64 r] w (RetB (torI m r) w) := by
  have hM0 := (Mm.start w).alloc m.cells.toArray 29
  have hm := hM0.mach 0 rfl
  have HIS := Lib.hid (IsMachine_any m hwf (w.alloc (.cells m.cells.toArray 29)))
  have HM0 := Lib.hid hM0
  clear hM0
  go_enter Try.func35, Try.ntmps35
  go_wp2_with ((with_reducible refine ld_mach ?_ (.tmp 2) ?_ (w.heap.size) (0) ?_ m hm hwf ?_); exact rfl; exact rfl; exact rfl)
  refine HIS.out.mono ?_
  rintro e w1 ⟨rfl, hb1⟩
  have hM1 := HM0.out.call hb1
  clear HM0 HIS hm hb1
  cases hp : machP m with
  | false =>
    have HD : Hid (torI m r = (false, 1)) := by show _ = _; rw [torI, hp]
    have hb := hM1.below
    clear hM1 hp
    go_wp2_with fail
    go_ret2
    rw [HD.out]
    exact ⟨rfl, hb⟩
  | true =>
    have hok := mach_ok hp
    have hs16 := hok.s_le
    have hm1 := hM1.mach 0 rfl
    have cs := hm1.s
    rw [hok.S_eq] at cs
    have HD : Hid (torI m r = match decide (m.s ≤ 5) && inR r 0 3 with
      | false => (false, 2)
      | true => match torK m (r.toNat + 1) with
        | some c => (false, (c : Int))
        | none => (true, 0)) := by show _ = _; rw [torI, hp]
    have HOK := Lib.hid hok
    clear hp hok
    cases hr : inR r 0 3 with
    | false =>
      have HD2 : Hid (torI m r = (false, 2)) := by show _ = _; rw [HD.out, hr, Bool.and_false]
      have hb := hM1.below
      have HRW := Lib.hid (within_any r 0 3)
      rw [hr] at HRW
      clear hr hM1 hm1
      go_wp2_with (go_at_call 59; refine (HRW.out _).mono ?_; rintro e w' ⟨rfl, rfl⟩)
      go_ret2
      rw [HD2.out]
      exact ⟨rfl, hb⟩
    | true =>
      have HRW := Lib.hid (within_any r 0 3)
      rw [hr] at HRW
      obtain ⟨n, rfl⟩ : ∃ n : Nat, r = (n : Int) := ⟨r.toNat, by simp only [inR, Bool.and_eq_true, decide_eq_true_eq] at hr; omega⟩
      have hn : n ≤ 3 := by simp only [inR, Bool.and_eq_true, decide_eq_true_eq] at hr; omega
      by_cases h5 : m.s ≤ 5
      · have HD2 : Hid (torI m (n : Int) = match torK m (n + 1) with
          | some c => (false, (c : Int))
          | none => (true, 0)) := by show _ = _; rw [HD.out, hr, decide_eq_true h5, Int.toNat_natCast]; rfl
        have j1 : ¬ ((5 : Int) < (m.s : Int)) := by omega
        have j2 : (m.s : Int) ≤ 5 := by omega
        have en : IntKind.i64.wrap ((n : Int) + 1) = (n : Int) + 1 := IntWalk.i64_in _ (by omega)
        have HNG := Lib.hid (newGroup_any m hwf HOK.out w1)
        have HM1 := Lib.hid hM1
        clear hr HD hM1
        go_wp2_with (first | (go_at_call 59; refine (HRW.out _).mono ?_; rintro e w' ⟨rfl, rfl⟩) | ((with_reducible refine ld_mach ?_ (.tmp 2) ?_ (w.heap.size) (0) ?_ m hm1 hwf ?_); exact rfl; exact rfl; exact rfl))
        refine HNG.out.mono ?_
        rintro e w2 ⟨G, rfl, hb2, hG⟩
        have HM2 := Lib.hid (HM1.out.call hb2)
        have HG := Lib.hid hG
        clear HM1 hm1 HNG hG hb2 HRW cs
        go_wp2_with fail
        go_loopw [30] (fun kv wr => ∃ k : Nat, k ≤ n + 1 ∧ kv = .int .i64 (k : Int) ∧ Hid (torK m k = none) ∧ Hid (Below w2.heap.size w2 wr)) (fun k _ => n + 1 - (intOf k).toNat)
        case atStart => exact ⟨0, Nat.zero_le _, rfl, rfl, Below.refl _ _⟩
        case round =>
          obtain ⟨k, hk, rfl, HK0, HB⟩ := hrel
          obtain ⟨wo, rfl⟩ : ∃ wo, wo = wr := ⟨_, rfl⟩
          by_cases hlt : k < n + 1
          · have j3 : (k : Int) < (n : Int) + 1 := by omega
            have ek : IntKind.i64.wrap ((k : Int) + 1) = (k : Int) + 1 := IntWalk.i64_in _ (by omega)
            have cs := ((HM2.out.call HB.out).mach 0 rfl).s
            rw [HOK.out.S_eq] at cs
            have HGW := Lib.hid (groupWords_any m.s k h5 (by omega) wo)
            have HQW : Hid (∀ g ∈ gwsN m.s k, GW m g ∧ g.length ≤ 40) := fun g hg => ⟨gws_gw hg, by have := (gwsN_word m.s k g hg).1; omega⟩
            have HTK : Hid (torK m (k + 1) = (gwsN m.s k).findSome? (torW m)) := by show _ = _; rw [torK, HK0.out]
            have hQl := gwsN_small m.s h5 (show k ≤ 4 by omega)
            generalize gwsN m.s k = Q at *
            go_wp2_with fail
            refine HGW.out.mono ?_
            rintro e w3 ⟨v3, rfl, hb3, hO3⟩
            have HO3 := Lib.hid hO3
            have HB3 := Lib.hid (HB.out.trans (hb3.mono HB.out.size))
            obtain ⟨a3, c3, rfl, -⟩ := hO3.sl
            clear HGW hO3 hb3 cs
            go_wp2_with fail
            go_loopw [38] (fun iv wr => ∃ i : Nat, i ≤ Q.length ∧ iv = .int .i64 (i : Int) ∧ Hid ((Q.take i).findSome? (torW m) = none) ∧ Hid (Below w3.heap.size w3 wr)) (fun i _ => Q.length - (intOf i).toNat)
            case atStart => exact ⟨0, Nat.zero_le _, rfl, rfl, Below.refl _ _⟩
            case round =>
              obtain ⟨i, hi, rfl, HF, HBi⟩ := hrel
              by_cases hli : i < Q.length
              · obtain ⟨gq, cq, x, eo, cr, hOr⟩ := HO3.out.cell hli
                injection eo with eo1 eo2 eo3
                subst eo1 eo3
                obtain ⟨ar, cr', rfl, hIr⟩ := hOr.form
                have cr := (HBi.out.cell (World.block_lt_of_cell? _ _ cr)).trans cr
                have i1 : (0 : Int) ≤ (i : Int) := by omega
                have i2 : (i : Int) < (Q.length : Int) := by omega
                have ei : IntKind.i64.wrap ((i : Int) + 1) = (i : Int) + 1 := IntWalk.i64_in _ (by omega)
                have hBB := HB3.out.trans (HBi.out.mono HB3.out.size)
                have hq : Q[i]?.getD [] ∈ Q := by rw [List.getElem?_eq_getElem hli, Option.getD_some]; exact List.getElem_mem hli
                have HGO := Lib.hid (gorder_any m hwf HOK.out G ar (Q[i]?.getD []) cr' (HQW.out _ hq).1 (HQW.out _ hq).2 wr (HG.out.keep hBB) (hIr.keep HBi.out))
                have HN := Lib.hid (fun h1 h2 => fs_none hli HF.out (torW_none (m := m) (g := Q[i]?.getD []) h1 h2))
                have HS := Lib.hid (fun h => fs_some hli HF.out (torW_some (m := m) (g := Q[i]?.getD []) h))
                generalize Q[i]?.getD [] = g at *
                clear hOr hIr hq
                go_wp2_with fail
                refine HGO.out.mono ?_
                rintro e w5 ⟨rs, rf, rfl, hb5, -⟩
                have hz := Blk.new w5 #[.string ⟨#[]⟩, .int .i64 0] 53
                have f0 := hz.free 0
                have f1 := hz.free 1
                have g0 := hz.cell' (i := 0) rfl
                have g1 := hz.cell' (i := 1) rfl
                have HB5 : Hid (∀ o, Below w3.heap.size w3 (w5.alloc o)) := fun o => (HBi.out.trans (hb5.mono HBi.out.size)).alloc (Nat.le_trans HBi.out.size hb5.size) o
                have HBW : Hid (∀ o, Below w.heap.size w (w5.alloc o)) := fun o => ((HM2.out.below.trans (hBB.mono HM2.out.size)).trans (hb5.mono (Nat.le_trans HM2.out.size hBB.size))).alloc (Nat.le_trans HM2.out.size (Nat.le_trans hBB.size hb5.size)) o
                generalize resN (ordW m g) = rn at *
                generalize resC (ordW m g) = rc at *
                clear HGO hz hb5 hBB cr
                by_cases hc : rc = 0 ∧ rn ≠ 0
                · have HF2 := Lib.hid (HN.out hc.1 hc.2)
                  obtain ⟨rfl, hc2⟩ := hc
                  have j4 : ((rn : Int) == 0) = false := by simp; omega
                  clear HN HS
                  go_wp2_with fail
                  go_roundw
                  case rel => exact ⟨i + 1, by omega, by go_num, HF2.out, HB5.out _⟩
                  case measure => simp [intOf] <;> omega
                · have HF2 : Hid (torI m (n : Int) = (false, (rc : Int))) := by show _ = _; rw [HD2.out, torK_some (HTK.out.trans (HS.out hc)) (n + 1) (by omega)]
                  clear HN HS
                  by_cases hc0 : rc = 0
                  · have hr0 : rn = 0 := by
                      by_cases h : rn = 0
                      · exact h
                      · exact absurd ⟨hc0, h⟩ hc
                    subst hc0 hr0
                    clear hc
                    go_wp2_with fail
                    go_ret2
                    rw [HF2.out]
                    exact ⟨rfl, HBW.out _⟩
                  · have j4 : ((rc : Int) != 0) = true := by simp; omega
                    clear hc
                    go_wp2_with fail
                    go_ret2
                    rw [HF2.out]
                    exact ⟨rfl, HBW.out _⟩
              · have hi' : i = Q.length := by omega
                subst hi'
                rw [List.take_length] at HF
                have HT2 : Hid (torK m (k + 1) = none) := HTK.out.trans HF.out
                have HB2 := Lib.hid (HB3.out.trans (HBi.out.mono HB3.out.size))
                have j4 : ¬ ((Q.length : Int) < (Q.length : Int)) := by omega
                go_wp2_with fail
                go_roundw
                case rel => exact ⟨k + 1, by omega, by go_num, HT2.out, HB2.out⟩
                case measure => simp [intOf] <;> omega
          · have hk' : k = n + 1 := by omega
            subst hk'
            have HF2 : Hid (torI m (n : Int) = (true, 0)) := by show _ = _; rw [HD2.out, HK0.out]
            have HBW := Lib.hid (HM2.out.below.trans (HB.out.mono HM2.out.size))
            have j4 : ¬ ((((n + 1 : Nat) : Int)) < (n : Int) + 1) := by omega
            go_wp2_with fail
            go_ret2
            rw [HF2.out]
            exact ⟨rfl, HBW.out⟩
      · have HD2 : Hid (torI m (n : Int) = (false, 2)) := by show _ = _; rw [HD.out, decide_eq_false h5]; rfl
        have j1 : (5 : Int) < (m.s : Int) := by omega
        have hb := hM1.below
        clear hr hM1 hm1
        go_wp2_with (go_at_call 59; refine (HRW.out _).mono ?_; rintro e w' ⟨rfl, rfl⟩)
        go_ret2
        rw [HD2.out]
        exact ⟨rfl, hb⟩
end Go.Proofs.Yteagecoiijhflaa
