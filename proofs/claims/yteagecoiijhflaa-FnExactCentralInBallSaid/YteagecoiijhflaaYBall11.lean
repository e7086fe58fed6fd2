import Derived.Test.YteagecoiijhflaaYBall10
import Derived.Test.YteagecoiijhflaaYBall07
/- The reference's group words: l02Normal, l02Like, l02Find, l02Code. -/
namespace Go.Proofs.Yteagecoiijhflaa
open Go.RowKit
set_option linter.unusedVariables false
set_option linter.unusedSimpArgs false

/-- the classes and the trivial states of a machine as values -/
def clsV (m : Mch) : List Value := nvs 16 (fun q => if q < m.s then m.tbl.fin q else 0)
def trvV (m : Mch) : List Value := bls (trivB m)

set_option maxRecDepth 100000 in
set_option maxHeartbeats 4000000 in
theorem l02Normal_any (m : Mch) (hok : m.Ok) (a : Option Addr) (g : Wd) (c : Nat) (hg : GW m g) (hl : g.length ≤ 1000) (w : World) (hI : IntsAt w a g) :
    Calls Try.prog 87 #[.slice a g.length c, .agg (clsV m).toArray, .agg (trvV m).toArray] w fun e w' => ∃ v, e = .returned v ∧ Below w.heap.size w w' ∧ OwnI w' w.heap.size v (nrm m g) := by
  obtain ⟨i0, hi, hz0, hz1, hz2⟩ := info_parts Try.info2
  have h16 := hok.s_le
  have HI := Lib.hid hI
  have HGW := Lib.hid hg
  have hM0 := (((Mm.start w).alloc (clsV m).toArray 64).alloc (trvV m).toArray 65).alloc #[] 2
  rw [show (w.alloc (.cells (clsV m).toArray 64)).heap.size = w.heap.size + 1 by simp, show ((w.alloc (.cells (clsV m).toArray 64)).alloc (.cells (trvV m).toArray 65)).heap.size = w.heap.size + 1 + 1 by simp] at hM0
  have hM1 := hM0.addOwn (b := w.heap.size + 1 + 1) (cs := []) (T := 2) (by simp) 0 rfl (by omega)
  have HM1 : Hid (Mm w.heap.size w (((w.alloc (.cells (clsV m).toArray 64)).alloc (.cells (trvV m).toArray 65)).alloc (.cells #[] 2)) [(w.heap.size + 1, trvV m, 65), (w.heap.size, clsV m, 64)] [(.slice (some ⟨w.heap.size + 1 + 1, 0, none⟩) 0 0, 2, i64s (nrm m (g.take 0)))]) := by
    have hne : (w.heap.size != w.heap.size + 1 + 1) = true := by simp; omega
    have hne2 : (w.heap.size + 1 != w.heap.size + 1 + 1) = true := by simp
    simp only [List.filter_cons, List.filter_nil, hne, hne2, bne_self_eq_false, Bool.false_eq_true, if_false, if_true] at hM1
    show Mm _ _ _ _ _; simpa [nrm, i64s] using hM1
  have HCL : Hid (∀ q, q < m.s → (clsV m)[q]? = some (.int .i64 (m.tbl.fin q : Int))) := fun q hq => by
    rw [clsV, nvs_get _ (by omega), if_pos hq]
  have HTR : Hid (∀ q, q < m.s → (trvV m)[q]? = some (.bool (trivB m q))) := fun q hq => by
    rw [trvV, bls_get _ (by omega)]
  clear hI hg hM0 hM1
  generalize clsV m = CV at *
  generalize trvV m = TV at *
  go_enter Try.func87, Try.ntmps87
  go_wp2_with fail
  go_loopw [7, 8] (fun v i wr => ∃ j : Nat, j ≤ g.length ∧ i = .int .i64 j ∧ Mm w.heap.size w wr [(w.heap.size + 1, TV, 65), (w.heap.size, CV, 64)] [(v, 2, i64s (nrm m (g.take j)))]) (fun _ i _ => g.length - (intOf i).toNat)
  case atStart => exact ⟨0, Nat.zero_le _, rfl, HM1.out⟩
  case round =>
    clear HM1
    obtain ⟨j, hj, rfl, hM⟩ := hrel
    by_cases hlt : j < g.length
    · obtain ⟨b, off, rfl, e1⟩ := HI.out j hlt
      have e1 := (hM.below.cell (World.block_lt_of_cell? w _ e1)).trans e1
      have hk := HGW.out.at hlt
      have hq := stN_lt hk
      have e3 := (hM.at 1 rfl).cell' (HCL.out _ hq)
      have e5 := (hM.at 0 rfl).cell' (HTR.out _ hq)
      have HN := Lib.hid (nrm_snoc m (g.take j) (g[j]?.getD 0))
      rw [← take_snocI hlt, nstep] at HN
      have hsg : (g[j]?.getD 0 = (stN (g[j]?.getD 0) : Int) + 1 ∧ nkey m (g[j]?.getD 0) = (m.tbl.fin (stN (g[j]?.getD 0)) : Int) + 1) ∨ (g[j]?.getD 0 = -((stN (g[j]?.getD 0) : Int) + 1) ∧ nkey m (g[j]?.getD 0) = -((m.tbl.fin (stN (g[j]?.getD 0)) : Int) + 1)) := by
        simp only [nkey, stN]
        by_cases h : g[j]?.getD 0 < 0
        · rw [if_pos h]; right; exact ⟨by omega, rfl⟩
        · rw [if_neg h]; left; exact ⟨by omega, rfl⟩
      have HST := Lib.hid (l02State_any (g[j]?.getD 0) hk.1 (by omega) (by omega) wr)
      have hnl := nrm_len m (g.take j)
      rw [List.length_take] at hnl
      have hfl := m.tbl.fin_le (stN (g[j]?.getD 0))
      have i1 : (0 : Int) ≤ (j : Int) := by omega
      have i2 : (j : Int) < (g.length : Int) := by omega
      generalize stN (g[j]?.getD 0) = q at *
      generalize nkey m (g[j]?.getD 0) = nk at *
      generalize g[j]?.getD 0 = k at *
      generalize m.tbl.fin q = f at *
      obtain ⟨o, ho⟩ : ∃ o, o = nrm m (g.take j) := ⟨_, rfl⟩
      rw [← ho] at hM HN hnl
      have i3 : (0 : Int) ≤ (q : Int) := by omega
      have i4 : (q : Int) < 16 := by omega
      have i5 : (0 : Int) ≤ (f : Int) := by omega
      have i6 : (f : Int) ≤ 16 := by omega
      clear ho hk
      by_cases ht : trivB m q = true
      · rw [if_pos ht] at HN
        rw [ht] at e5
        clear ht
        rcases hsg with ⟨rfl, rfl⟩ | ⟨rfl, rfl⟩
        all_goals
          go_wp2_with (go_at_call 123; refine HST.out.mono ?_; rintro e w' ⟨rfl, rfl⟩)
          go_roundw
          case rel => exact ⟨j + 1, by omega, by go_num, by rw [HN.out]; exact hM⟩
          case measure => simp [intOf] <;> omega
      · rw [if_neg ht] at HN
        have ht' : trivB m q = false := by simpa using ht
        rw [ht'] at e5
        clear ht ht'
        by_cases hz : o = []
        · subst hz
          have HS : Hid (nrm m (g.take (j + 1)) = [nk]) := by show _ = _; rw [HN.out, if_neg (by simp)]; rfl
          have hO := hM.own _ (List.mem_cons_self ..)
          obtain ⟨av, cv, rfl⟩ : ∃ av cv, u7 = .slice av 0 cv := by
            rcases hO.2 with ⟨e, _⟩ | ⟨g', cap, cur, e, _⟩
            · exact ⟨_, _, e⟩
            · exact ⟨_, _, e⟩
          clear HN hO
          rcases hsg with ⟨rfl, rfl⟩ | ⟨rfl, rfl⟩
          all_goals
            go_wp2_with (first | (go_at_call 123; refine HST.out.mono ?_; rintro e w' ⟨rfl, rfl⟩) | (at_builtin; refine Mm.append rfl (.tmp 56) (.tmp 58) 26 rfl hM 0 rfl Try.underlying26 hi hz0 hz1 hz2 rfl rfl rfl rfl (by simp [i64s]) (by omega) ?_))
            intro g' cap' w3 hM3
            have HM3 : Hid (Mm w.heap.size w w3 [(w.heap.size + 1, TV, 65), (w.heap.size, CV, 64)] [(.slice (some ⟨g', 0, none⟩) ((i64s []).length + 1) cap', 2, i64s (nrm m (g.take (j + 1))))]) := by
              rw [HS.out]; show Mm _ _ _ _ _; simpa [i64s] using hM3
            clear hM hM3
            go_wp2_with fail
            go_roundw
            case rel => exact ⟨j + 1, by omega, by go_num, HM3.out⟩
            case measure => simp [intOf] <;> omega
        · obtain ⟨o', z, rfl⟩ : ∃ o' z, o = o' ++ [z] := ⟨o.dropLast, o.getLast hz, (List.dropLast_concat_getLast hz).symm⟩
          have hol : o'.length ≤ 1000 := by rw [List.length_append] at hnl; simp at hnl; omega
          have hO := hM.own _ (List.mem_cons_self ..)
          simp only at hO
          have hcap := own_cap hO
          obtain ⟨gv, cv, rfl, -, -, hcl⟩ := own_form hO (by simp [i64s])
          have hcap : o'.length ≤ cv := by have := hcap _ _ _ rfl; simp [i64s] at this; omega
          have hln : (i64s (o' ++ [z])).length = o'.length + 1 := by simp [i64s]
          rw [hln] at hM ⊢
          have e6 := hcl o'.length (.int .i64 z) (by simp [i64s])
          have hzb : (0 : Int) ≤ (o'.length : Int) := by omega
          clear hcl hO hz
          by_cases hc : z = -nk
          · have HS : Hid (nrm m (g.take (j + 1)) = o') := by show _ = _; rw [HN.out, if_pos (by simp [hc]), List.dropLast_concat]
            have hM2 := hM.cut (g := gv) (c := cv) (k := o'.length) (by rw [hln]) (by simp [i64s])
            have HM2 : Hid (Mm w.heap.size w wr [(w.heap.size + 1, TV, 65), (w.heap.size, CV, 64)] [(.slice (some ⟨gv, 0, none⟩) o'.length cv, 2, i64s (nrm m (g.take (j + 1))))]) := by
              rw [HS.out]; show Mm _ _ _ _ _; simpa [i64s] using hM2
            clear HN hM hM2 hln
            subst hc
            rcases hsg with ⟨rfl, rfl⟩ | ⟨rfl, rfl⟩
            all_goals
              go_wp2_with (go_at_call 123; refine HST.out.mono ?_; rintro e w' ⟨rfl, rfl⟩)
              go_roundw
              case rel => exact ⟨j + 1, by omega, by go_num, HM2.out⟩
              case measure => simp [intOf] <;> omega
          · have HS : Hid (nrm m (g.take (j + 1)) = (o' ++ [z]) ++ [nk]) := by show _ = _; rw [HN.out, if_neg (by simpa using hc)]
            have hc1 : (z == -nk) = false := by simpa using hc
            have hil : (i64s (o' ++ [z])).length ≤ 1000000 := by simp [i64s]; omega
            clear HN hln hc
            rcases hsg with ⟨rfl, rfl⟩ | ⟨rfl, rfl⟩
            all_goals
              try simp only [Int.neg_neg] at hc1
              go_wp2_with (first | (go_at_call 123; refine HST.out.mono ?_; rintro e w' ⟨rfl, rfl⟩) | (at_builtin; refine Mm.append rfl (.tmp 56) (.tmp 58) 26 rfl hM 0 rfl Try.underlying26 hi hz0 hz1 hz2 rfl rfl rfl rfl hil (by omega) ?_))
              intro g' cap' w3 hM3
              have HM3 : Hid (Mm w.heap.size w w3 [(w.heap.size + 1, TV, 65), (w.heap.size, CV, 64)] [(.slice (some ⟨g', 0, none⟩) ((i64s (o' ++ [z])).length + 1) cap', 2, i64s (nrm m (g.take (j + 1))))]) := by
                rw [HS.out]; show Mm _ _ _ _ _; simpa [i64s] using hM3
              clear hM hM3
              go_wp2_with fail
              go_roundw
              case rel => exact ⟨j + 1, by omega, by go_num, HM3.out⟩
              case measure => simp [intOf] <;> omega
    · have hj' : j = g.length := by omega
      subst hj'
      rw [List.take_length] at hM
      have ho : Hid (OwnI wr w.heap.size u7 (nrm m g)) := OwnI.of_row (hM.own _ (List.mem_cons_self ..))
      have hb := hM.below
      clear hM
      go_wp2_with fail
      go_ret
      exact ⟨_, rfl, hb, ho.out⟩

set_option maxHeartbeats 1000000 in
theorem l02Like_any (a b : Option Addr) (c d : Nat) (xs ys : Wd) (hx : xs.length ≤ 1000000) (w : World) (ha : IntsAt w a xs) (hb : IntsAt w b ys) :
    Calls Try.prog 130 #[.slice a xs.length c, .slice b ys.length d] w (RetQ (.bool (decide (xs = ys))) w) := by
  have HA := Lib.hid ha
  have HB := Lib.hid hb
  clear ha hb
  go_enter Try.func130, Try.ntmps130
  by_cases hl : xs.length = ys.length
  · have hle : ((xs.length : Int) == (ys.length : Int)) = true := by simp; omega
    have hln : ((xs.length : Int) != (ys.length : Int)) = false := by simp; omega
    go_wp2_with fail
    go_loopw [5] (fun i wr => ∃ k : Nat, k ≤ xs.length ∧ i = .int .i64 k ∧ Hid (∃ n, wr = w.drewN n) ∧ Hid (∀ j, j < k → xs[j]? = ys[j]?)) (fun i _ => xs.length - (intOf i).toNat)
    case atStart => exact ⟨0, Nat.zero_le _, rfl, ⟨0, rfl⟩, fun j hj => by omega⟩
    case round =>
      obtain ⟨k, hk, rfl, HW, HE⟩ := hrel
      by_cases hlt : k < xs.length
      · obtain ⟨g, off, rfl, hc⟩ := HA.out k hlt
        obtain ⟨g', off', rfl, hc'⟩ := HB.out k (by omega)
        have hcell : ∀ a, wr.cell? a = w.cell? a := fun a => by obtain ⟨n, hn⟩ := HW.out; rw [hn]; rfl
        rw [← hcell] at hc hc'
        clear hcell
        have i1 : (0 : Int) ≤ (k : Int) := by omega
        have i2 : (k : Int) < (xs.length : Int) := by omega
        have i3 : (k : Int) < (ys.length : Int) := by omega
        have i4 : k < ys.length := by omega
        obtain ⟨x, hx⟩ : ∃ x, x = xs[k]?.getD 0 := ⟨_, rfl⟩
        obtain ⟨y, hy⟩ : ∃ y, y = ys[k]?.getD 0 := ⟨_, rfl⟩
        rw [← hx] at hc
        rw [← hy] at hc'
        by_cases e : x = y
        · have HN : Hid (∀ j, j < k + 1 → xs[j]? = ys[j]?) := fun j hj => by
            by_cases h : j = k
            · subst h
              rw [List.getElem?_eq_getElem hlt, List.getElem?_eq_getElem i4] at *
              simp only [Option.getD_some] at hx hy
              rw [← hx, ← hy, e]
            · exact HE.out j (by omega)
          subst e
          clear hx hy
          go_wp2_with fail
          go_quiet (fail)
          go_wp2_with fail
          go_roundw
          case rel => exact ⟨k + 1, by omega, by go_num, by obtain ⟨n, hn⟩ := HW.out; rw [hn]; exact dN2 _ _ _, HN⟩
          case measure => simp [intOf] <;> omega
        · have H : Hid (decide (xs = ys) = false) := by
            show _ = _
            simp only [decide_eq_false_iff_not]; intro h; rw [h] at hx; exact e (hx.trans hy.symm)
          have e' : (x != y) = true := by simpa using e
          clear e hx hy
          go_wp2_with fail
          go_quiet (fail)
          go_wp2_with fail
          go_ret
          exact ⟨ret_bool H.out.symm, by obtain ⟨n, hn⟩ := HW.out; rw [hn]; exact dN2 _ _ _⟩
      · have H : Hid (decide (xs = ys) = true) := by
          show _ = _
          simp only [decide_eq_true_eq]
          apply List.ext_getElem?
          intro j
          by_cases hj : j < k
          · exact HE.out j hj
          · rw [List.getElem?_eq_none (by omega), List.getElem?_eq_none (by omega)]
        go_wp2_with fail
        go_ret
        exact ⟨ret_bool H.out.symm, HW.out⟩
  · have H : Hid (decide (xs = ys) = false) := by
      show _ = _
      simp only [decide_eq_false_iff_not]; intro e; rw [e] at hl; exact hl rfl
    have hle : ((xs.length : Int) == (ys.length : Int)) = false := by simp; omega
    have hln : ((xs.length : Int) != (ys.length : Int)) = true := by simp; omega
    clear hl
    go_wp2_with fail
    go_ret
    exact ⟨ret_bool H.out.symm, 0, rfl⟩

/-- the place of a word in a queue, or -1 -/
def plc (Q : List Wd) (s : Wd) : Int := if s ∈ Q then (Q.idxOf s : Int) else -1
theorem plc_hit {Q : List Wd} {s : Wd} {i : Nat} (hi : i < Q.length) (h : Q[i]?.getD [] = s) (hm : ∀ j, j < i → Q[j]?.getD [] ≠ s) : plc Q s = i := by
  rw [List.getElem?_eq_getElem hi, Option.getD_some] at h
  have hmem : s ∈ Q := by rw [← h]; exact List.getElem_mem hi
  rw [plc, if_pos hmem]
  have h1 := List.idxOf_lt_length_iff.2 hmem
  have h2 : Q[Q.idxOf s] = s := List.getElem_idxOf h1
  rcases Nat.lt_trichotomy (Q.idxOf s) i with c | c | c
  · exfalso
    have := hm _ c
    rw [List.getElem?_eq_getElem h1, Option.getD_some] at this
    exact this h2
  · rw [c]
  · exfalso
    have := List.not_of_lt_findIdx (p := (· == s)) (xs := Q) (i := i) (by simpa [List.idxOf] using c)
    simp [h] at this
theorem plc_none {Q : List Wd} {s : Wd} (h : ∀ j, j < Q.length → Q[j]?.getD [] ≠ s) : plc Q s = -1 := by
  rw [plc, if_neg]
  intro hm
  obtain ⟨i, hi, e⟩ := List.getElem_of_mem hm
  exact h i hi (by rw [List.getElem?_eq_getElem hi, Option.getD_some, e])

set_option maxRecDepth 100000 in
set_option maxHeartbeats 1000000 in
theorem l02Find_any (v : Value) (Q : List Wd) (a : Option Addr) (s : Wd) (c : Nat) (hQ : Q.length ≤ 1000) (hq : ∀ i : Nat, (Q[i]?.getD []).length ≤ 1000) (w : World) (hS : SlII w v Q) (hI : IntsAt w a s) :
    Calls Try.prog 99 #[v, .slice a s.length c] w (RetQ (.int .i64 (plc Q s)) w) := by
  obtain ⟨b, d, rfl, hc⟩ := hS
  have HC := Lib.hid hc
  have HI := Lib.hid hI
  have HQ := Lib.hid hq
  clear hc hI hq
  go_enter Try.func99, Try.ntmps99
  go_wp2_with fail
  go_loopw [5] (fun i wr => ∃ j : Nat, j ≤ Q.length ∧ i = .int .i64 j ∧ Hid (∃ n, wr = w.drewN n) ∧ Hid (∀ i, i < j → Q[i]?.getD [] ≠ s)) (fun i _ => Q.length - (intOf i).toNat)
  case atStart => exact ⟨0, Nat.zero_le _, rfl, ⟨0, rfl⟩, fun i h => by omega⟩
  case round =>
    obtain ⟨j, hj, rfl, HW, HE⟩ := hrel
    by_cases hlt : j < Q.length
    · obtain ⟨bb, off, rfl, a', c', e1, e2⟩ := HC.out j hlt
      have HL : Hid (Calls Try.prog 130 #[.slice a' (Q[j]?.getD []).length c', .slice a s.length c] wr (RetQ (.bool (decide (Q[j]?.getD [] = s))) wr)) := by
        obtain ⟨n, hn⟩ := HW.out
        rw [hn]
        exact l02Like_any a' a c' c _ s (by have := HQ.out j; omega) _ e2 HI.out
      have hcell : wr.cell? ⟨bb, off + j, none⟩ = w.cell? ⟨bb, off + j, none⟩ := by obtain ⟨n, hn⟩ := HW.out; rw [hn]; rfl
      rw [← hcell] at e1
      have i1 : (0 : Int) ≤ (j : Int) := by omega
      have i2 : (j : Int) < (Q.length : Int) := by omega
      have HP : Hid (Q[j]?.getD [] = s → plc Q s = j) := fun h => plc_hit hlt h HE.out
      have HNX : Hid (Q[j]?.getD [] ≠ s → ∀ i, i < j + 1 → Q[i]?.getD [] ≠ s) := fun h i hi => by
        by_cases e : i = j
        · subst e; exact h
        · exact HE.out i (by omega)
      clear hcell e2
      generalize Q[j]?.getD [] = h at *
      go_wp2_with fail
      refine HL.out.mono ?_
      rintro e w1 ⟨rfl, n1, rfl⟩
      have HW1 : Hid (∃ n, wr.drewN n1 = w.drewN n) := by obtain ⟨n, hn⟩ := HW.out; rw [hn]; exact dN2 _ _ _
      clear HL e1
      by_cases e : h = s
      · have HR := Lib.hid (HP.out e)
        rw [decide_eq_true e]
        clear e
        go_wp2_with fail
        go_ret
        exact ⟨ret_int HR.out.symm, HW1.out⟩
      · have HR := Lib.hid (HNX.out e)
        rw [decide_eq_false e]
        clear e
        go_wp2_with fail
        go_roundw
        case rel => exact ⟨j + 1, by omega, by go_num, HW1, HR⟩
        case measure => simp [intOf] <;> omega
    · have HR : Hid (plc Q s = -1) := plc_none (fun i hi => HE.out i (by omega))
      go_wp2_with fail
      go_ret
      exact ⟨ret_int HR.out.symm, HW.out⟩

/-- the code of a machine and words -/
def codeG (m : Mch) (rows : List Wd) : Int := if gwsB m rows = true then 0 else 1
theorem codeG_ok {m : Mch} {rows : List Wd} (h : gwsB m rows = true) : codeG m rows = 0 := if_pos h
theorem codeG_bad {m : Mch} {rows : List Wd} (h : gwsB m rows = false) : codeG m rows = 1 := by rw [codeG, h]; rfl
set_option maxRecDepth 100000 in
set_option maxHeartbeats 2000000 in
theorem l02Code_any (m : Mch) (hwf : m.Wf) (v : Value) (rows : List Wd) (hn : rows.length ≤ 1100000) (hx : ∀ i : Nat, (rows[i]?.getD []).length ≤ 1100000) (w : World) (hS : SlII w v rows) :
    Calls Try.prog 53 #[.agg m.cells.toArray, v] w (Ret (.int .i64 (codeG m rows)) w) := by
  obtain ⟨a, c, rfl, hc⟩ := hS
  have HC := Lib.hid hc
  have HX := Lib.hid hx
  have hm := MAt.boxed w m 29
  have hb0 := boxedBelow w m.cells.toArray 29
  have HIM := Lib.hid (mach_info hwf)
  have hmx : Try.prog.follows .mixedOrders = true := by kernel_rfl
  have HMX := Lib.hid hmx
  clear hc hx hmx
  go_enter Try.func53, Try.ntmps53
  by_cases c1 : machP m = true
  · have hok := mach_ok c1
    have HM1 := Lib.hid c1
    go_wp2_with ((with_reducible refine ld_mach ?_ (.tmp 2) ?_ (w.heap.size) (0) ?_ m hm hwf ?_); exact rfl; exact rfl; exact rfl)
    refine (l01Is_any m hwf _).mono ?_
    rintro e w1 ⟨rfl, hb1⟩
    have hbb1 := hb0.trans (hb1.mono hb0.size)
    have hm1 := hm.keep hb1 hwf
    have hbw : w.heap.size < w1.heap.size := World.block_lt_of_cell? w1 ⟨w.heap.size, 0, none⟩ hm1.l
    rw [c1]
    clear hm hb0 c1
    go_wp2_with fail
    go_loopw [5] (fun i wr => ∃ j : Nat, j ≤ rows.length ∧ i = .int .i64 j ∧ Below w.heap.size w wr ∧ Hid (MAt wr w.heap.size 0 m) ∧ Hid (∀ i, i < j → gwB m (rows[i]?.getD []) = true)) (fun i _ => rows.length - (intOf i).toNat)
    case atStart => exact ⟨0, Nat.zero_le _, rfl, hbb1, hm1, fun i h => by omega⟩
    case round =>
      clear hbb1 hm1
      obtain ⟨j, hj, rfl, hb, HMA, HE⟩ := hrel
      by_cases hlt : j < rows.length
      · obtain ⟨bb, off, rfl, a', c', e1, e2⟩ := HC.out j hlt
        have HL : Hid (∀ W, Below wr.heap.size wr W → Calls Try.prog 84 #[.agg m.cells.toArray, .slice a' (rows[j]?.getD []).length c'] W (Ret (.bool (gwB m (rows[j]?.getD []))) W)) := fun W hW =>
          l02Is_any m hwf hok a' _ c' (HX.out j) W (e2.keep (hb.trans (hW.mono hb.size)))
        have HSM : Hid (∀ W, Below wr.heap.size wr W → MAt W w.heap.size 0 m ∧ W.cell? ⟨bb, off + j, none⟩ = some (.slice a' (rows[j]?.getD []).length c')) := fun W hW =>
          ⟨HMA.out.keep hW hwf, ((hb.trans (hW.mono hb.size)).cell (World.block_lt_of_cell? w _ e1)).trans e1⟩
        have HNX : Hid (gwB m (rows[j]?.getD []) = true → ∀ i, i < j + 1 → gwB m (rows[i]?.getD []) = true) := fun h i hi => by
          by_cases e : i = j
          · subst e; exact h
          · exact HE.out i (by omega)
        have HF : Hid (gwB m (rows[j]?.getD []) = false → gwsB m rows = false) := fun h => by
          rw [gwsB, HM1.out, Bool.true_and, List.all_eq_false]
          exact ⟨rows[j], List.getElem_mem hlt, by rw [List.getElem?_eq_getElem hlt] at h; simpa using h⟩
        have i1 : (0 : Int) ≤ (j : Int) := by omega
        have i2 : (j : Int) < (rows.length : Int) := by omega
        clear e1 e2
        generalize rows[j]?.getD [] = h at *
        go_wp2_with fail
        have hbd : Below wr.heap.size wr wr.drew := (Below.refl _ wr).drew
        refine region_S (fun W => MAt W w.heap.size 0 m ∧ W.cell? ⟨bb, off + j, none⟩ = some (.slice a' h.length c')) [] 7 rfl HMX.out (HSM.out _ hbd) (fun hU => ?_)
        obtain ⟨W, hW⟩ : ∃ W, W = wr.drew := ⟨_, rfl⟩
        rw [← hW] at hU hbd ⊢
        clear hW
        (refine AnyS.takeS (i := 0) rfl (by kernel_rfl) (by kernel_rfl) (by kernel_rfl) (by rfl) (by kernel_rfl) (by kernel_rfl) (fun _ _ _ h => h) (by rfl) (fun W hW => run_ld Try.underlying29 rfl HIM.out (.tmp 2) rfl rfl hW.1) hU (fun hU => ?_); (try simp only [Act.put, List.setIfInBounds_toArray, List.set_cons_zero, List.set_cons_succ]))
        (refine AnyS.take (i := 1) rfl (by kernel_rfl) (by kernel_rfl) (by kernel_rfl) (by rfl) (fun _ _ _ h => h) (by rfl) (by intro w; go_simp; with_reducible rfl) hU (fun hU => ?_); (try simp only [Act.put, List.setIfInBounds_toArray, List.set_cons_zero, List.set_cons_succ]); refine AnyS.take (i := 2) rfl (by kernel_rfl) (by kernel_rfl) (by kernel_rfl) (by rfl) (fun _ _ _ h => h) (by rfl) (by intro w; go_simp; with_reducible rfl) hU (fun hU => ?_); (try simp only [Act.put, List.setIfInBounds_toArray, List.set_cons_zero, List.set_cons_succ]); refine AnyS.take (i := 3) rfl (by kernel_rfl) (by kernel_rfl) (by kernel_rfl) (by rfl) (fun _ _ _ h => h) (by rfl) (by intro w; go_simp; with_reducible rfl) hU (fun hU => ?_); (try simp only [Act.put, List.setIfInBounds_toArray, List.set_cons_zero, List.set_cons_succ]))
        (refine AnyS.takeS (i := 4) rfl (by kernel_rfl) (by kernel_rfl) (by kernel_rfl) (by rfl) (by kernel_rfl) (by kernel_rfl) (fun _ _ _ h => h) (by rfl) (by intro W hSw; have h1 := hSw.2; clear hSw; go_simp; with_reducible rfl) hU (fun hU => ?_); (try simp only [Act.put, List.setIfInBounds_toArray, List.set_cons_zero, List.set_cons_succ]))
        refine AnyS.branch (rs := [5]) (by kernel_rfl) (by simp) (AllS.cons rfl (fun K hK => ?_) AllS.nil)
        go_simp
        refine (HL.out _ hbd).mono ?_
        rintro e w4 ⟨rfl, hb4⟩
        have hbb4 := hbd.trans (hb4.mono hbd.size)
        refine hK.out _ _ (.inl (HSM.out _ hbb4)) (fun hU => ?_)
        clear hK K
        (try simp only [Act.put, List.setIfInBounds_toArray, List.set_cons_zero, List.set_cons_succ])
        (refine AnyS.take (i := 6) rfl (by kernel_rfl) (by kernel_rfl) (by kernel_rfl) (by rfl) (fun _ _ _ h => h) (by rfl) (by intro w; go_simp; with_reducible rfl) hU (fun hU => ?_); (try simp only [Act.put, List.setIfInBounds_toArray, List.set_cons_zero, List.set_cons_succ]))
        refine AnyS.done (by kernel_rfl) ?_ _
        have hbw := hb.trans (hbb4.mono hb.size)
        have HMB : Hid (MAt w4 w.heap.size 0 m) := (HSM.out _ hbb4).1
        clear hU
        cases hg : gwB m h
        · have HR := Lib.hid (HF.out hg)
          clear hg
          go_wp2_with fail
          go_ret
          exact ⟨ret_int (codeG_bad HR.out).symm, hbw⟩
        · have HR := Lib.hid (HNX.out hg)
          clear hg
          go_wp2_with fail
          go_roundw
          case rel => exact ⟨j + 1, by omega, by go_num, hbw, HMB, HR⟩
          case measure => simp [intOf] <;> omega
      · have HR : Hid (gwsB m rows = true) := by
          show _ = _
          rw [gwsB, HM1.out, Bool.true_and, List.all_eq_true]
          intro r hr
          obtain ⟨i, hi, rfl⟩ := List.getElem_of_mem hr
          have := HE.out i (by omega)
          rwa [List.getElem?_eq_getElem hi] at this
        go_wp2_with fail
        go_ret
        exact ⟨ret_int (codeG_ok HR.out).symm, hb⟩
  · have c1' : machP m = false := by simpa using c1
    have HR : Hid (gwsB m rows = false) := by show _ = _; rw [gwsB, c1']; rfl
    clear c1
    go_wp2_with ((with_reducible refine ld_mach ?_ (.tmp 2) ?_ (w.heap.size) (0) ?_ m hm hwf ?_); exact rfl; exact rfl; exact rfl)
    refine (l01Is_any m hwf _).mono ?_
    rintro e w1 ⟨rfl, hb1⟩
    have hbb1 := hb0.trans (hb1.mono hb0.size)
    rw [c1']
    clear hm
    go_wp2_with fail
    go_ret
    exact ⟨ret_int (codeG_bad HR.out).symm, hbb1⟩
end Go.Proofs.Yteagecoiijhflaa
