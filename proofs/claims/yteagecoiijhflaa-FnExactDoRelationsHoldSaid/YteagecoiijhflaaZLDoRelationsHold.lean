import Derived.Test.YteagecoiijhflaaZLDoRelationsHold12
import Derived.Test.YteagecoiijhflaaRows
import Derived.WalkKit
import Derived.ProofKit
import Derived.OpenShut
import Derived.SizedLaws
import Derived.Carry
import Derived.Test.YteagecoiijhflaaZLDoRelationsHold01
import Derived.Lib.SmallJoins
import Derived.Deep.Matrix
import Derived.Deep.Strs
import Derived.Test.YteagecoiijhflaaChecked
import Derived.JoinedOf
/- DoRelationsHold of both sides. -/
namespace Go.Proofs.Yteagecoiijhflaa
open Go.RowKit
set_option linter.unusedVariables false
set_option linter.unusedSimpArgs false

def drL (T : Wd → Bool × Int) : List Wd → Bool × Int
  | [] => (true, 0)
  | r :: t => if (T r).1 = true then drL T t else (false, (T r).2)
def drR (m : Mch) (rows : List Wd) : Bool × Int := match gwsB m rows with | true => drL (trvR m) rows | false => (false, 1)
theorem drL_all {T : Wd → Bool × Int} : ∀ {rows : List Wd}, (∀ i, i < rows.length → (T (rows[i]?.getD [])).1 = true) → drL T rows = (true, 0)
  | [], _ => rfl
  | r :: t, h => by
    have h0 := h 0 (by simp)
    simp only [List.getElem?_cons_zero, Option.getD_some] at h0
    rw [drL, if_pos h0]
    exact drL_all fun i hi => by have := h (i + 1) (by simp; omega); simpa using this
theorem drL_stop {T : Wd → Bool × Int} : ∀ {rows : List Wd} {j : Nat}, j < rows.length → (∀ i, i < j → (T (rows[i]?.getD [])).1 = true) → (T (rows[j]?.getD [])).1 = false → drL T rows = (false, (T (rows[j]?.getD [])).2)
  | [], j, hj, _, _ => by simp at hj
  | r :: t, 0, _, _, h => by
    simp only [List.getElem?_cons_zero, Option.getD_some] at h ⊢
    rw [drL, if_neg (by rw [h]; decide)]
  | r :: t, j + 1, hj, hp, h => by
    have h0 := hp 0 (by omega)
    simp only [List.getElem?_cons_zero, Option.getD_some] at h0
    rw [drL, if_pos h0]
    simp only [List.getElem?_cons_succ] at h ⊢
    exact drL_stop (by simpa using hj) (fun i hi => by have := hp (i + 1) (by omega); simpa using this) h
theorem trvR_cases (m : Mch) (g : Wd) : trvR m g = (true, 0) ∨ trvR m g = (false, 0) ∨ trvR m g = (false, 3) := by
  cases h : secR m (leavesB m) g with
  | ok p => exact .inl (trvR_ok h)
  | error c =>
    rcases qRow_code h with rfl | rfl
    · exact .inr (.inl (trvR_five h))
    · exact .inr (.inr (trvR_three h))
theorem drR_ok {m : Mch} {rows : List Wd} (h : gwsB m rows = true) : drR m rows = drL (trvR m) rows := by rw [drR, h]
theorem drR_bad {m : Mch} {rows : List Wd} (h : gwsB m rows = false) : drR m rows = (false, 1) := by rw [drR, h]
theorem gwsB_row {m : Mch} {rows : List Wd} (h : gwsB m rows = true) {i : Nat} (hi : i < rows.length) : m.Ok ∧ GW m (rows[i]?.getD []) ∧ (rows[i]?.getD []).length ≤ 40 := by
  simp only [gwsB, Bool.and_eq_true, List.all_eq_true] at h
  refine gwP_gw ?_
  rw [List.getElem?_eq_getElem hi, Option.getD_some, gwP, h.1, h.2 _ (List.getElem_mem hi)]; rfl

set_option maxRecDepth 100000 in
set_option maxHeartbeats 4000000 in
theorem implDoRelationsHold_any (m : Mch) (hwf : m.Wf) (v : Value) (rows : List Wd) (hn : rows.length ≤ 1100000) (hx : ∀ i : Nat, (rows[i]?.getD []).length ≤ 1100000) (w : World) (hS : SlII w v rows) :
    Calls Try.prog 26 #[.agg m.cells.toArray, v] w (Ret (.tuple #[.bool (drR m rows).1, .int .i64 (drR m rows).2]) w) := by
  have hm := MAt.boxed w m 29
  have hb0 := boxedBelow w m.cells.toArray 29
  have HS := Lib.hid hS
  have HG := Lib.hid (groupOf_any m hwf v rows hn hx _ (hS.below hb0))
  obtain ⟨a, c, rfl, hc⟩ := hS
  have HC := Lib.hid hc
  clear hc hx
  go_enter Try.func26, Try.ntmps26
  go_wp2_with ((with_reducible refine ld_mach ?_ (.tmp 2) ?_ (w.heap.size) (0) ?_ m hm hwf ?_); exact rfl; exact rfl; exact rfl)
  refine HG.out.mono ?_
  intro e w1 hR
  cases hg : gwsB m rows with
  | false =>
    rw [hg] at hR
    obtain ⟨rfl, hb1⟩ := hR
    have HD := Lib.hid (drR_bad hg)
    have hbb := hb0.trans (hb1.mono hb0.size)
    clear hg HG hm
    go_wp2_with fail
    go_ret2
    rw [HD.out]
    exact ⟨rfl, hbb⟩
  | true =>
    rw [hg] at hR
    obtain ⟨G, rfl, hb1, hGr⟩ := hR
    have HD := Lib.hid (drR_ok hg)
    have HGB := Lib.hid hg
    have HGR := Lib.hid hGr
    have hbb := hb0.trans (hb1.mono hb0.size)
    clear hg HG hm hGr
    go_wp2_with fail
    go_loopw [23] (fun i wr => ∃ j : Nat, j ≤ rows.length ∧ i = .int .i64 j ∧ Below w1.heap.size w1 wr ∧ Hid (∀ i, i < j → (trvR m (rows[i]?.getD [])).1 = true)) (fun i _ => rows.length - (intOf i).toNat)
    case atStart => exact ⟨0, Nat.zero_le _, rfl, Below.refl _ _, fun i h => by omega⟩
    case round =>
      obtain ⟨j, hj, rfl, hb, HE⟩ := hrel
      by_cases hlt : j < rows.length
      · obtain ⟨bb, off, rfl, a', c', e1, e2⟩ := HC.out j hlt
        have hbw := hbb.trans (hb.mono hbb.size)
        have e1 := (hbw.cell (World.block_lt_of_cell? w _ e1)).trans e1
        obtain ⟨hok, hgw, h40⟩ := gwsB_row HGB.out hlt
        have HT := Lib.hid (isTrivial_any G m hwf hok a' _ c' hgw (by omega) wr (HGR.out.keep hb) (e2.keep hbw))
        have HNX : Hid ((trvR m (rows[j]?.getD [])).1 = true → ∀ i, i < j + 1 → (trvR m (rows[i]?.getD [])).1 = true) := fun h i hi => by
          by_cases e : i = j
          · subst e; exact h
          · exact HE.out i (by omega)
        have HST : Hid ((trvR m (rows[j]?.getD [])).1 = false → drR m rows = (false, (trvR m (rows[j]?.getD [])).2)) := fun h => by
          rw [HD.out]; exact drL_stop hlt HE.out h
        have hcs := trvR_cases m (rows[j]?.getD [])
        have i1 : (0 : Int) ≤ (j : Int) := by omega
        have i2 : (j : Int) < (rows.length : Int) := by omega
        clear hgw h40 e2
        obtain ⟨T, hT⟩ : ∃ T, T = trvR m (rows[j]?.getD []) := ⟨_, rfl⟩
        rw [← hT] at HT HNX HST hcs
        generalize rows[j]?.getD [] = r at *
        clear hT
        go_wp2_with fail
        refine HT.out.mono ?_
        rintro e w2 ⟨rfl, hb2⟩
        have hb3 := hb.trans (hb2.mono hb.size)
        have hend := hbb.trans (hb3.mono hbb.size)
        clear HT
        rcases hcs with rfl | rfl | rfl
        · have HN := Lib.hid (HNX.out rfl)
          go_wp2_with fail
          go_roundw
          case rel => exact ⟨j + 1, by omega, by go_num, hb3, HN.out⟩
          case measure => simp [intOf] <;> omega
        · have HN := Lib.hid (HST.out rfl)
          go_wp2_with fail
          go_ret2
          rw [HN.out]
          exact ⟨rfl, hend⟩
        · have HN := Lib.hid (HST.out rfl)
          go_wp2_with fail
          go_ret2
          rw [HN.out]
          exact ⟨rfl, hend⟩
      · have HN : Hid (drR m rows = (true, 0)) := by show _ = _; rw [HD.out]; exact drL_all fun i hi => HE.out i (by omega)
        have hend := hbb.trans (hb.mono hbb.size)
        go_wp2_with fail
        go_ret2
        rw [HN.out]
        exact ⟨rfl, hend⟩

set_option maxRecDepth 100000 in
set_option maxHeartbeats 4000000 in
theorem specDoRelationsHold_any (m : Mch) (hwf : m.Wf) (v : Value) (rows : List Wd) (hn : rows.length ≤ 1100000) (hx : ∀ i : Nat, (rows[i]?.getD []).length ≤ 1100000) (w : World) (hS : SlII w v rows) :
    Calls Try.prog 24 #[.agg m.cells.toArray, v] w (Ret (.tuple #[.bool (drR m rows).1, .int .i64 (drR m rows).2]) w) := by
  have hm := MAt.boxed w m 29
  have hb0 := boxedBelow w m.cells.toArray 29
  have HG := Lib.hid (l02Code_any m hwf v rows hn hx _ (hS.below hb0))
  have HIM := Lib.hid (mach_info hwf)
  have hmx : Try.prog.follows .mixedOrders = true := by kernel_rfl
  have HMX := Lib.hid hmx
  obtain ⟨a, c, rfl, hc⟩ := hS
  have HC := Lib.hid hc
  clear hc hx hmx
  go_enter Try.func24, Try.ntmps24
  go_wp2_with ((with_reducible refine ld_mach ?_ (.tmp 2) ?_ (w.heap.size) (0) ?_ m hm hwf ?_); exact rfl; exact rfl; exact rfl)
  refine HG.out.mono ?_
  rintro e w1 ⟨rfl, hb1⟩
  have hbb := hb0.trans (hb1.mono hb0.size)
  have hm1 := hm.keep hb1 hwf
  clear hm
  cases hg : gwsB m rows with
  | false =>
    have HD := Lib.hid (drR_bad hg)
    have hcg := codeG_bad hg
    rw [hcg]
    clear hg HG hm1 hcg
    go_wp2_with fail
    go_ret2
    rw [HD.out]
    exact ⟨rfl, hbb⟩
  | true =>
    have HD := Lib.hid (drR_ok hg)
    have HGB := Lib.hid hg
    have hcg := codeG_ok hg
    have HMA := Lib.hid hm1
    rw [hcg]
    clear hg HG hcg hm1
    go_wp2_with fail
    go_loopw [7] (fun i wr => ∃ j : Nat, j ≤ rows.length ∧ i = .int .i64 j ∧ Below w1.heap.size w1 wr ∧ Hid (∀ i, i < j → (trvR m (rows[i]?.getD [])).1 = true)) (fun i _ => rows.length - (intOf i).toNat)
    case atStart => exact ⟨0, Nat.zero_le _, rfl, Below.refl _ _, fun i h => by omega⟩
    case round =>
      obtain ⟨j, hj, rfl, hb, HE⟩ := hrel
      by_cases hlt : j < rows.length
      · obtain ⟨bb, off, rfl, a', c', e1, e2⟩ := HC.out j hlt
        have hbw := hbb.trans (hb.mono hbb.size)
        obtain ⟨hok, hgw, h40⟩ := gwsB_row HGB.out hlt
        have HT : Hid (∀ W, Below w1.heap.size w1 W → Calls Try.prog 62 #[.agg m.cells.toArray, .slice a' (rows[j]?.getD []).length c'] W (Ret (.tuple #[.bool (trvR m (rows[j]?.getD [])).1, .int .i64 (trvR m (rows[j]?.getD [])).2]) W)) := fun W hW =>
          l02Trivial_any m hwf hok a' _ c' hgw (by omega) W (e2.keep (hbb.trans (hW.mono hbb.size)))
        have HSM : Hid (∀ W, Below w1.heap.size w1 W → MAt W w.heap.size 0 m ∧ W.cell? ⟨bb, off + j, none⟩ = some (.slice a' (rows[j]?.getD []).length c')) := fun W hW =>
          ⟨HMA.out.keep hW hwf, ((hbb.trans (hW.mono hbb.size)).cell (World.block_lt_of_cell? w _ e1)).trans e1⟩
        have HNX : Hid ((trvR m (rows[j]?.getD [])).1 = true → ∀ i, i < j + 1 → (trvR m (rows[i]?.getD [])).1 = true) := fun h i hi => by
          by_cases e : i = j
          · subst e; exact h
          · exact HE.out i (by omega)
        have HST : Hid ((trvR m (rows[j]?.getD [])).1 = false → drR m rows = (false, (trvR m (rows[j]?.getD [])).2)) := fun h => by
          rw [HD.out]; exact drL_stop hlt HE.out h
        have hcs := trvR_cases m (rows[j]?.getD [])
        have i1 : (0 : Int) ≤ (j : Int) := by omega
        have i2 : (j : Int) < (rows.length : Int) := by omega
        clear hgw h40 e2 e1
        obtain ⟨T, hT⟩ : ∃ T, T = trvR m (rows[j]?.getD []) := ⟨_, rfl⟩
        rw [← hT] at HT HNX HST hcs
        generalize rows[j]?.getD [] = r at *
        clear hT
        go_wp2_with fail
        have hbd := hb.drew
        refine region_S (fun W => MAt W w.heap.size 0 m ∧ W.cell? ⟨bb, off + j, none⟩ = some (.slice a' r.length c')) [] 11 rfl HMX.out (HSM.out _ hbd) (fun hU => ?_)
        obtain ⟨W, hW⟩ : ∃ W, W = wr.drew := ⟨_, rfl⟩
        rw [← hW] at hU hbd ⊢
        clear hW
        (refine AnyS.takeS (i := 0) rfl (by kernel_rfl) (by kernel_rfl) (by kernel_rfl) (by rfl) (by kernel_rfl) (by kernel_rfl) (fun _ _ _ h => h) (by rfl) (fun W hW => run_ld Try.underlying29 rfl HIM.out (.tmp 2) rfl rfl hW.1) hU (fun hU => ?_); (try simp only [Act.put, List.setIfInBounds_toArray, List.set_cons_zero, List.set_cons_succ]))
        (refine AnyS.take (i := 1) rfl (by kernel_rfl) (by kernel_rfl) (by kernel_rfl) (by rfl) (fun _ _ _ h => h) (by rfl) (by intro w; go_simp; with_reducible rfl) hU (fun hU => ?_); (try simp only [Act.put, List.setIfInBounds_toArray, List.set_cons_zero, List.set_cons_succ]); refine AnyS.take (i := 2) rfl (by kernel_rfl) (by kernel_rfl) (by kernel_rfl) (by rfl) (fun _ _ _ h => h) (by rfl) (by intro w; go_simp; with_reducible rfl) hU (fun hU => ?_); (try simp only [Act.put, List.setIfInBounds_toArray, List.set_cons_zero, List.set_cons_succ]); refine AnyS.take (i := 3) rfl (by kernel_rfl) (by kernel_rfl) (by kernel_rfl) (by rfl) (fun _ _ _ h => h) (by rfl) (by intro w; go_simp; with_reducible rfl) hU (fun hU => ?_); (try simp only [Act.put, List.setIfInBounds_toArray, List.set_cons_zero, List.set_cons_succ]))
        (refine AnyS.takeS (i := 4) rfl (by kernel_rfl) (by kernel_rfl) (by kernel_rfl) (by rfl) (by kernel_rfl) (by kernel_rfl) (fun _ _ _ h => h) (by rfl) (by intro W hSw; have h1 := hSw.2; clear hSw; go_simp; with_reducible rfl) hU (fun hU => ?_); (try simp only [Act.put, List.setIfInBounds_toArray, List.set_cons_zero, List.set_cons_succ]))
        refine AnyS.branch (rs := [5]) (by kernel_rfl) (by simp) (AllS.cons rfl (fun K hK => ?_) AllS.nil)
        go_simp
        refine (HT.out _ hbd).mono ?_
        rintro e w4 ⟨rfl, hb4⟩
        have hb3 := hbd.trans (hb4.mono hbd.size)
        refine hK.out _ _ (.inl (HSM.out _ hb3)) (fun hU => ?_)
        clear hK K
        (try simp only [Act.put, List.setIfInBounds_toArray, List.set_cons_zero, List.set_cons_succ])
        (refine AnyS.take (i := 6) rfl (by kernel_rfl) (by kernel_rfl) (by kernel_rfl) (by rfl) (fun _ _ _ h => h) (by rfl) (by intro w; go_simp; with_reducible rfl) hU (fun hU => ?_); (try simp only [Act.put, List.setIfInBounds_toArray, List.set_cons_zero, List.set_cons_succ]); refine AnyS.take (i := 7) rfl (by kernel_rfl) (by kernel_rfl) (by kernel_rfl) (by rfl) (fun _ _ _ h => h) (by rfl) (by intro w; go_simp; with_reducible rfl) hU (fun hU => ?_); (try simp only [Act.put, List.setIfInBounds_toArray, List.set_cons_zero, List.set_cons_succ]); refine AnyS.take (i := 8) rfl (by kernel_rfl) (by kernel_rfl) (by kernel_rfl) (by rfl) (fun _ _ _ h => h) (by rfl) (by intro w; go_simp; with_reducible rfl) hU (fun hU => ?_); (try simp only [Act.put, List.setIfInBounds_toArray, List.set_cons_zero, List.set_cons_succ]); refine AnyS.take (i := 9) rfl (by kernel_rfl) (by kernel_rfl) (by kernel_rfl) (by rfl) (fun _ _ _ h => h) (by rfl) (by intro w; go_simp; with_reducible rfl) hU (fun hU => ?_); (try simp only [Act.put, List.setIfInBounds_toArray, List.set_cons_zero, List.set_cons_succ]); refine AnyS.take (i := 10) rfl (by kernel_rfl) (by kernel_rfl) (by kernel_rfl) (by rfl) (fun _ _ _ h => h) (by rfl) (by intro w; go_simp; with_reducible rfl) hU (fun hU => ?_); (try simp only [Act.put, List.setIfInBounds_toArray, List.set_cons_zero, List.set_cons_succ]))
        refine AnyS.done (by kernel_rfl) ?_ _
        have hend := hbb.trans (hb3.mono hbb.size)
        clear hU HT
        rcases hcs with rfl | rfl | rfl
        · have HN := Lib.hid (HNX.out rfl)
          go_wp2_with fail
          go_roundw
          case rel => exact ⟨j + 1, by omega, by go_num, hb3, HN.out⟩
          case measure => simp [intOf] <;> omega
        · have HN := Lib.hid (HST.out rfl)
          go_wp2_with fail
          go_ret2
          rw [HN.out]
          exact ⟨rfl, hend⟩
        · have HN := Lib.hid (HST.out rfl)
          go_wp2_with fail
          go_ret2
          rw [HN.out]
          exact ⟨rfl, hend⟩
      · have HN : Hid (drR m rows = (true, 0)) := by show _ = _; rw [HD.out]; exact drL_all fun i hi => HE.out i (by omega)
        have hend := hbb.trans (hb.mono hbb.size)
        go_wp2_with fail
        go_ret2
        rw [HN.out]
        exact ⟨rfl, hend⟩
end Go.Proofs.Yteagecoiijhflaa

/- A law whose walk ends in 'true' and leaves what was there as it was: from the walk to the row. -/
namespace Go.Proofs.Yteagecoiijhflaa
open Go.ChangeShapes Go.WideShapes Go.ChangeAt Go.RowKit
set_option linter.unusedVariables false

theorem Try.own : ownKnob Try.prog.godebug = none := by kernel_rfl
theorem Try.laidOut : laidOutB Try.prog = true := by kernel_rfl

theorem trodAll_below {H : Type} {enc : TypeId × Value → H} {P : Program} (hl : laidOutB P = true) {W W' : World} (hb : Below W.heap.size W W') :
    ∀ (ts : List TypeId) (vs : List Value) (ds : List (DataW H)) (ps : List MemPlace), (ts.all fun t => P.readableRec t && decide (t < P.types.size)) = true → DataW.TrodAll enc P W 0 (fun _ => true) true ts vs ds ps → (∀ x ∈ ps, x.block < W.heap.size) →
      DataW.TrodAll enc P W' 0 (fun b => decide (b < W.heap.size)) true ts vs ds ps
  | [], vs, ds, ps, _, h, _ => by
    obtain ⟨rfl, rfl, rfl⟩ := trodAll_nil h
    exact trodAll_mk0
  | t :: ts, vs, ds, ps, hr, h, hlt => by
    obtain ⟨v, vs', d, ds', p, q, rfl, rfl, rfl, h1, h2⟩ := trodAll_cons h
    simp only [List.all_cons, Bool.and_eq_true, decide_eq_true_eq] at hr
    exact trodAll_cons_mk (Below.trod hl hr.1.1 hr.1.2 h1 hb fun x hx => hlt x (List.mem_append_left _ hx))
      (trodAll_below hl hb ts vs' ds' q (by simpa using hr.2) h2 fun x hx => hlt x (List.mem_append_right _ hx))

/-- the row's post behind a walk that answers true -/
theorem law_post {H : Type} {enc : TypeId × Value → H} {P : Program} {f : Func} {s : ChangeSpec} {W W' : World} {args : Array Value} {ds gs : List (DataW H)} {before : List MemPlace}
    (hl : laidOutB P = true) (hr : (f.params.toList.all fun t => P.readableRec t && decide (t < P.types.size)) = true) (hW : DataW.Whole enc P f.params.toList s.vars false W args.toList ds gs before) (hv : s.vars = [])
    (h1 : (s.fn H (ds ++ gs)).results = [.lit (.bool true)]) (h2 : (s.fn H (ds ++ gs)).args = ds) (h3 : (s.fn H (ds ++ gs)).vars = []) (hb : Below W.heap.size W W')
    {tb : TypeId} (ht : f.resultTypes = #[tb]) (hu : P.underlying tb = some .bool) :
    s.post enc P f false true false false W args (.bool true) W' := by
  have hW' := hW
  obtain ⟨p, q, hA, hV, rfl, _, _⟩ := hW
  rw [hv] at hV
  obtain ⟨rfl, rfl⟩ := trodVars_none hV
  have hlt : ∀ x ∈ p, x.block < W.heap.size := fun x hx => by simpa using hW'.lt x (by simpa using hx)
  refine ⟨_, _, _, [], p ++ [], [], hW', ?_, ?_, ?_, hb.frame _, fun h => by cases h⟩
  · rw [h1, ht]
    exact trodAll_mk1 (shut_bool hu true)
  · rw [h2, List.append_nil]
    exact trodAll_below hl hb _ _ _ _ hr hA hlt
  · rw [h3, hv]
    rfl

end Go.Proofs.Yteagecoiijhflaa

/- A machine among a law's arguments. -/
namespace Go.Proofs.Yteagecoiijhflaa
open Go.ChangeShapes Go.WideShapes Go.ChangeAt Go.RowKit Go.Joins
set_option linter.unusedVariables false
set_option linter.unusedSimpArgs false

theorem all_ints : ∀ (cs : List Value), (∀ i, i < cs.length → ∃ n : Int, cs[i]? = some (.int .u8 n) ∧ 0 ≤ n ∧ n ≤ 255) → ∃ N : List Int, cs = N.map (Value.int .u8) ∧ N.length = cs.length ∧ ∀ i : Nat, 0 ≤ N[i]?.getD 0 ∧ N[i]?.getD 0 ≤ 255
  | [], _ => ⟨[], rfl, rfl, fun i => by simp⟩
  | c :: cs, h => by
    obtain ⟨N, hN, hl, hb⟩ := all_ints cs (fun i hi => by have := h (i + 1) (by simp; omega); simpa using this)
    obtain ⟨n, hc, h0, h1⟩ := h 0 (by simp)
    simp at hc
    subst hc
    refine ⟨n :: N, by rw [hN]; rfl, by simp [hl], fun i => ?_⟩
    cases i with
    | zero => simp; omega
    | succ i => simpa using hb i

theorem split98 (cs : List Value) (h : cs.length = 98) : cs = cs.take 1 ++ ((cs.drop 1).take 1 ++ ((cs.drop 2).take 48 ++ (cs.drop 50).take 48)) := by
  have e1 : (cs.drop 50).take 48 = cs.drop 50 := List.take_of_length_le (by simp [h])
  have e2 : (cs.drop 2).take 48 ++ cs.drop 50 = cs.drop 2 := by
    have := List.take_append_drop 48 (cs.drop 2)
    rwa [List.drop_drop] at this
  have e3 : (cs.drop 1).take 1 ++ cs.drop 2 = cs.drop 1 := by
    have := List.take_append_drop 1 (cs.drop 1)
    rwa [List.drop_drop] at this
  rw [e1, e2, e3, List.take_append_drop]
section
variable {H : Type} {enc : TypeId × Value → H} {w : World} {base : Nat} {spare : Nat → Bool} {held : Bool}
theorem trod_u8 {n : Nat} {c : List Value} {y : DataW H × List MemPlace} (h : DataW.trod enc Try.prog w base spare held n 5 c = some y) : ∃ k : Int, c = [.int .u8 k] ∧ 0 ≤ k ∧ k ≤ 255 := by
  obtain ⟨k, rfl, _, hw⟩ := DataW.trod_int Try.underlying5 h
  refine ⟨k, rfl, ?_⟩
  simp [Lit.wf, IntKind.min, IntKind.max, IntKind.signed, IntKind.bits] at hw
  omega
theorem trod_some {P : Program} {t : TypeId} {xs : List (DataW H × List MemPlace)} {n i : Nat} {cs : List Value} (h : DataW.trod enc P w base spare held n t cs = xs[i]?) (hi : i < xs.length) : ∃ y, DataW.trod enc P w base spare held n t cs = some y :=
  ⟨xs[i], by rw [h, List.getElem?_eq_getElem hi]⟩
set_option maxRecDepth 100000 in
theorem trod_rows {n : Nat} {cs : List Value} {y : DataW H × List MemPlace} (h : DataW.trod enc Try.prog w base spare held n 23 cs = some y) :
    cs.length = 48 ∧ ∀ i, i < cs.length → ∃ n : Int, cs[i]? = some (.int .u8 n) ∧ 0 ≤ n ∧ n ≤ 255 := by
  have c36 : Try.prog.cellsOf 23 = 48 := by kernel_rfl
  have c35 : Try.prog.cellsOf 22 = 3 := by kernel_rfl
  have c3 : Try.prog.cellsOf 5 = 1 := by kernel_rfl
  obtain ⟨xs, m, rfl, _, hl, hx, hf⟩ := DataW.trod_array Try.underlying23 h
  rw [c36] at hl
  refine ⟨hl, fun i hi => ?_⟩
  obtain ⟨y1, h1⟩ := trod_some (hf (i / 3) (by omega)) (by omega)
  rw [c35] at h1
  obtain ⟨xs', m', rfl, _, hl', hx', hf'⟩ := DataW.trod_array Try.underlying22 h1
  obtain ⟨y2, h2⟩ := trod_some (hf' (i % 3) (by omega)) (by omega)
  rw [c3] at h2
  obtain ⟨k, hk, h0, h255⟩ := trod_u8 h2
  refine ⟨k, ?_, h0, h255⟩
  have := congrArg (fun l : List Value => l[0]?) hk
  simp only [List.getElem?_take, List.getElem?_drop, List.getElem?_cons_zero] at this
  rw [if_pos (by omega), if_pos (by omega)] at this
  have e : i / 3 * 3 + (i % 3 * 1 + 0) = i := by omega
  rw [← this, e]
set_option maxRecDepth 100000 in
theorem mach_of_trod {fuel : Nat} {cs : List Value} {y : DataW H × List MemPlace} (hf : DataW.trod enc Try.prog w base spare held fuel 25 cs = some y) :
    ∃ m : Mch, m.Wf ∧ cs = m.cells := by
  have c38 : Try.prog.cellsOf 25 = 98 := by kernel_rfl
  have c36 : Try.prog.cellsOf 23 = 48 := by kernel_rfl
  have c2 : Try.prog.cellsOf 2 = 1 := by kernel_rfl
  obtain ⟨y0, y1, y2, y3, n, _, hl, h0, h1, h2, h3⟩ := trod_struct4 Try.underlying25 hf
  simp only at h0 h1 h2 h3 hl
  rw [c38] at hl
  rw [c2] at h0 h1
  rw [c36] at h2 h3
  obtain ⟨L, e0, _, wL⟩ := DataW.trod_int Try.underlying2 h0
  obtain ⟨S, e1, _, wS⟩ := DataW.trod_int Try.underlying2 h1
  obtain ⟨lN, hN⟩ := trod_rows h2
  obtain ⟨lO, hO⟩ := trod_rows h3
  obtain ⟨N, eN, nN, bN⟩ := all_ints _ hN
  obtain ⟨O, eO, nO, bO⟩ := all_ints _ hO
  rw [lN] at nN
  rw [lO] at nO
  simp [Lit.wf, IntKind.min, IntKind.max, IntKind.signed, IntKind.bits] at wL wS
  refine ⟨⟨L, S, N, O⟩, ⟨nN, nO, bN, bO, wL, wS⟩, ?_⟩
  rw [split98 cs hl]
  simp only [Mch.cells]
  rw [List.map_append, ← eN, ← eO]
  have e0' : cs.take 1 = [.int .i64 L] := e0
  have e1' : (cs.drop 1).take 1 = [.int .i64 S] := e1
  rw [e0', e1']
  rfl
set_option maxRecDepth 100000 in
theorem open_mach {b0 : Nat} {r : Reach} {v : Value} {d : DataW H} {p : List MemPlace} (hv : Value.okWide Try.prog w r b0 25 v) (h : DataW.Trod enc Try.prog w base spare held 25 v d p) :
    ∃ m : Mch, m.Wf ∧ v = .agg m.cells.toArray := by
  obtain ⟨cs, rfl, hsz⟩ := okWide_struct Try.underlying25 hv
  obtain ⟨fuel, hf⟩ := h
  obtain ⟨cs⟩ := cs
  simp only [Value.cells] at hf
  obtain ⟨m, hw, rfl⟩ := mach_of_trod hf
  exact ⟨m, hw, rfl⟩
end
end Go.Proofs.Yteagecoiijhflaa

/- Slices of slices of numbers among a law's arguments. -/
namespace Go.Proofs.Yteagecoiijhflaa
open Go.ChangeShapes Go.WideShapes Go.ChangeAt Go.RowKit Go.Joins
set_option linter.unusedVariables false
set_option linter.unusedSimpArgs false

/-- what the size of rows says -/
def SzII (rows : List Wd) (r : Int) : Prop := r = -1 ∨ (0 ≤ r ∧ rows.length ≤ 1048576 ∧ ∀ i : Nat, (rows[i]?.getD []).length ≤ 1048576)
set_option maxHeartbeats 1000000 in
theorem szInt64SS_any (v : Value) (rows : List Wd) (left : Int) (h0 : 0 ≤ left) (h1 : left ≤ 1048576) (hn : rows.length ≤ 9223372036854775807) (hx : ∀ i : Nat, (rows[i]?.getD []).length ≤ 9223372036854775807) (w : World) (hS : SlII w v rows) :
    Calls Try.prog 23 #[v, .int .i64 left] w fun e w' => ∃ r : Int, e = .returned (.int .i64 r) ∧ SzII rows r ∧ w = w' := by
  obtain ⟨a, c, rfl, hc⟩ := hS
  have HC := Lib.hid hc
  have HX := Lib.hid hx
  clear hc hx
  go_enter Try.func23, Try.ntmps23
  by_cases hl : left < rows.length
  · have hl' : left - (rows.length : Int) < 0 := by omega
    have i1 : -9223372036854775808 ≤ left - (rows.length : Int) := by omega
    go_wp2_with fail
    go_ret
    exact ⟨-1, rfl, .inl rfl, rfl⟩
  · have hl' : ¬ left - (rows.length : Int) < 0 := by omega
    have hlen : rows.length ≤ 1048576 := by omega
    obtain ⟨l0, hl0⟩ : ∃ l0 : Int, l0 = left - (rows.length : Int) := ⟨_, rfl⟩
    have i2 : l0 ≤ 1048576 := by omega
    have i3 : 0 ≤ l0 := by omega
    have e0 : IntKind.i64.wrap (left - (rows.length : Int)) = l0 := by rw [IntWalk.i64_in _ (by omega), hl0]
    go_wp2_with fail
    go_loop [1, 5] (fun l i => ∃ (j : Nat) (r : Int), j ≤ rows.length ∧ i = .int .i64 j ∧ l = .int .i64 r ∧ 0 ≤ r ∧ r ≤ 1048576 ∧ Hid (∀ i : Nat, i < j → (rows[i]?.getD []).length ≤ 1048576)) (fun _ i => rows.length - (intOf i).toNat)
    case atStart => exact ⟨0, _, Nat.zero_le _, rfl, rfl, by omega, by omega, fun i h => by omega⟩
    case round =>
      clear e0
      obtain ⟨j, r, hj, rfl, rfl, hr0, hr1, HE⟩ := hrel
      by_cases hlt : j < rows.length
      · obtain ⟨bb, off, rfl, a', c', e1, e2⟩ := HC.out j hlt
        have HZ := Lib.hid (szInt64S_any a' (rows[j]?.getD []).length c' r hr0 hr1 (HX.out j) w)
        have j1 : (0 : Int) ≤ (j : Int) := by omega
        have j2 : (j : Int) < (rows.length : Int) := by omega
        have HN : Hid ((rows[j]?.getD []).length ≤ 1048576 → ∀ i : Nat, i < j + 1 → (rows[i]?.getD []).length ≤ 1048576) := fun h i hi => by
          by_cases e : i = j
          · subst e; exact h
          · exact HE.out i (by omega)
        clear e2
        generalize (rows[j]?.getD []).length = n at *
        by_cases hle : r < (n : Int)
        · rw [if_pos hle] at HZ
          go_wp2_with fail
          refine HZ.out.mono ?_
          rintro e w' ⟨rfl, rfl⟩
          clear HZ
          go_wp2_with fail
          go_ret
          exact ⟨-1, rfl, .inl rfl, rfl⟩
        · rw [if_neg hle] at HZ
          obtain ⟨r', hr'⟩ : ∃ r' : Int, r' = r - (n : Int) := ⟨_, rfl⟩
          rw [← hr'] at HZ
          have k1 : 0 ≤ r' := by omega
          have k2 : r' ≤ 1048576 := by omega
          have k3 : ¬ r' < 0 := by omega
          have HN2 := Lib.hid (HN.out (by omega))
          clear hr' HN hle
          go_wp2_with fail
          refine HZ.out.mono ?_
          rintro e w' ⟨rfl, rfl⟩
          clear HZ e1
          go_wp2_with fail
          go_round
          case rel => exact ⟨j + 1, r', by omega, by go_num, rfl, k1, k2, HN2.out⟩
          case measure => simp [intOf] <;> omega
      · have HN : Hid (∀ i : Nat, (rows[i]?.getD []).length ≤ 1048576) := fun i => by
          by_cases hi : i < rows.length
          · exact HE.out i (by omega)
          · rw [List.getElem?_eq_none (by omega)]; simp
        go_wp2_with fail
        go_ret
        exact ⟨r, rfl, .inr ⟨hr0, hlen, HN.out⟩, rfl⟩

/-- 'make([][]int64, n)' -/
theorem mkII (n : Nat) (hn : n ≤ 2000000) (u : World) : (Instr.makeSlice 35 (.int .i64 (n : Int)) (.int .i64 (n : Int))).run Try.prog u =
    .ok (.slice (some ⟨u.heap.size, 0, none⟩) n n) (u.alloc (.cells (madeCells #[.slice none 0 0] n) 26)) := by
  obtain ⟨i0, hi, hz0, hz1, hz2⟩ := info_parts Try.info26
  have h := run_make (P := Try.prog) u 35 26 i0 (.slice none 0 0) Try.underlying35 hi hz0 .i64 .i64 (n : Int) (n : Int) (by omega) (Int.le_refl _) (by rw [hz2]; omega) (by omega)
  simpa [hz1, Value.cells] using h
theorem madeII (n : Nat) : (madeCells #[Value.slice none 0 0] n).toList = List.replicate n (.slice none 0 0) := by
  simp only [madeCells, Array.toList_map, Array.toList_range]
  apply List.ext_getElem?
  intro i
  by_cases hi : i < n <;> simp [hi, Nat.mod_one]
theorem slII_of {B : Nat} {w0 w : World} {b : Nat} {rv : List Value} {rows : List Wd} (h : Mm B w0 w [(b, rv, 26)] (rowG rv rows)) (hl : rv.length = rows.length) : SlII w (.slice (some ⟨b, 0, none⟩) rows.length rows.length) rows := by
  refine ⟨_, _, rfl, fun i hi => ⟨b, 0, rfl, ?_⟩⟩
  have hrow : OwnI w B (rv[i]?.getD undef) (rows[i]?.getD []) := OwnI.of_row (h.own _ (mem_of_get (rowG_get hl hi)))
  obtain ⟨a, d, e', hI⟩ := hrow.form
  refine ⟨a, d, ?_, hI⟩
  rw [Nat.zero_add]
  have := (h.at 0 rfl).cell' (i := i) (v := rv[i]?.getD undef) (by simp only; rw [List.getElem?_eq_getElem (by omega)]; rfl)
  rw [this, e']

set_option maxRecDepth 100000 in
set_option maxHeartbeats 2000000 in
theorem toInt64SS_any (v : Value) (rows : List Wd) (hn : rows.length ≤ 1100000) (hx : ∀ i : Nat, (rows[i]?.getD []).length ≤ 1100000) (w : World) (hS : SlII w v rows) :
    Calls Try.prog 25 #[v] w fun e w' => ∃ v', e = .returned v' ∧ Below w.heap.size w w' ∧ SlII w' v' rows := by
  obtain ⟨a, c, rfl, hc⟩ := hS
  have HC := Lib.hid hc
  have HX := Lib.hid hx
  have hmk := mkII rows.length (by omega) w
  have hM0 := (Mm.start w).alloc (madeCells #[.slice none 0 0] rows.length) 26
  rw [madeII] at hM0
  clear hc hx
  go_enter Try.func25, Try.ntmps25
  go_wp2_with fail
  clear hmk
  go_loopw [4] (fun i wr => ∃ (j : Nat) (rv : List Value), j ≤ rows.length ∧ i = .int .i64 j ∧ Mm w.heap.size w wr [(w.heap.size, rv ++ List.replicate (rows.length - j) (.slice none 0 0), 26)] (rowG rv (rows.take j)) ∧ Hid (rv.length = j)) (fun i _ => rows.length - (intOf i).toNat)
  case atStart => exact ⟨0, [], Nat.zero_le _, rfl, by simpa [rowG] using hM0, rfl⟩
  case round =>
    clear hM0
    obtain ⟨j, rv, hj, rfl, hM, HL⟩ := hrel
    by_cases hlt : j < rows.length
    · obtain ⟨bb, off, rfl, a', c', e1, e2⟩ := HC.out j hlt
      have e1 := (hM.below.cell (World.block_lt_of_cell? w _ e1)).trans e1
      have HT := Lib.hid (toInt64S_any a' (rows[j]?.getD []) c' (HX.out j) wr (e2.keep hM.below))
      have i1 : (0 : Int) ≤ (j : Int) := by omega
      have i2 : (j : Int) < (rows.length : Int) := by omega
      have htk : rows.take (j + 1) = rows.take j ++ [rows[j]?.getD []] := by rw [List.take_succ_eq_append_getElem hlt, List.getElem?_eq_getElem hlt]; rfl
      have HTK := Lib.hid htk
      clear htk e2
      generalize rows[j]?.getD [] = r at *
      go_wp2_with fail
      refine HT.out.mono ?_
      rintro e w1 ⟨v1, rfl, hb1, hO1⟩
      have hM1 := hM.callOwn hb1 hO1 (by simp [i64s])
      have hB := hM1.at 0 rfl
      have hcell : (rv ++ List.replicate (rows.length - j) (Value.slice none 0 0))[j]? = some (.slice none 0 0) := by
        rw [List.getElem?_append_right (by rw [HL.out]; omega), HL.out, Nat.sub_self, List.getElem?_replicate, if_pos (by omega)]
      have c1 := hB.cell' hcell
      have f1 := hB.free j
      have hset : (rv ++ List.replicate (rows.length - j) (Value.slice none 0 0)).set j v1 = (rv ++ [v1]) ++ List.replicate (rows.length - (j + 1)) (.slice none 0 0) := by
        rw [List.set_append_right _ _ (by rw [HL.out]; omega), HL.out, Nat.sub_self, show rows.length - j = (rows.length - (j + 1)) + 1 by omega, List.replicate_succ, List.set_cons_zero, List.append_assoc]; rfl
      have hM2 := hM1.setCell 0 rfl j v1
      simp only [List.set_cons_zero] at hM2
      rw [hset] at hM2
      have HM2 : Hid (Mm w.heap.size w (w1.setCell ⟨w.heap.size, j, none⟩ v1) [(w.heap.size, (rv ++ [v1]) ++ List.replicate (rows.length - (j + 1)) (.slice none 0 0), 26)] (rowG (rv ++ [v1]) (rows.take (j + 1)))) := by
        rw [HTK.out, rowG_snoc v1 r (by rw [HL.out, List.length_take]; omega)]
        exact hM2.permG (List.perm_append_singleton _ _).symm
      obtain ⟨a1, d1, rfl, -⟩ := hO1.form
      clear hM hM1 hM2 hB hset hcell HT hO1 e1 hb1
      go_wp2_with fail
      go_roundw
      case rel => exact ⟨j + 1, rv ++ [.slice a1 r.length d1], by omega, by go_num, HM2.out, (by show _ = _; rw [List.length_append, HL.out]; rfl)⟩
      case measure => simp [intOf] <;> omega
    · have hj' : j = rows.length := by omega
      subst hj'
      rw [List.take_length, Nat.sub_self, List.replicate_zero, List.append_nil] at hM
      have HR := Lib.hid (slII_of hM HL.out)
      have hb := hM.below
      clear hM
      go_wp2_with fail
      go_ret
      exact ⟨_, rfl, hb, HR.out⟩

section
variable {H : Type} {enc : TypeId × Value → H} {w : World} {base : Nat} {held : Bool}
theorem rows_of_trod {n : Nat} {cs : List Value} {y : DataW H × List MemPlace} (h : DataW.trod enc Try.prog w base (fun _ => true) held n 35 cs = some y) :
    ∃ v rows, cs = [v] ∧ SlII w v rows ∧ rows.length ≤ 9223372036854775807 ∧ ∀ i : Nat, (rows[i]?.getD []).length ≤ 9223372036854775807 := by
  rcases Go.Deep.open_int_rows Try.underlying35 Try.underlying26 Try.underlying2 (by kernel_rfl) (by kernel_rfl) h with ⟨rfl, _⟩ | ⟨a, len, cap, A, L, C, Z, rfl, _, hl, hm, _, hr⟩
  · exact ⟨_, [], rfl, ⟨none, 0, rfl, fun i hi => by simp at hi⟩, by simp, fun i => by simp⟩
  · unfold maxLen at hm
    have hlen : ((List.range len).map fun r => (Z r).take (L r)).length = len := by simp
    have hrow : ∀ i, i < len → ((List.range len).map fun r => (Z r).take (L r))[i]?.getD [] = (Z i).take (L i) := fun i hi => by simp [hi]
    have hL : ∀ i, i < len → ((Z i).take (L i)).length = L i := fun i hi => by
      obtain ⟨_, h2, h3, h4, _⟩ := hr i (by omega)
      rw [List.length_take]; omega
    refine ⟨_, (List.range len).map fun r => (Z r).take (L r), rfl, ⟨some a, cap, by rw [hlen], fun i hi => ?_⟩, by rw [hlen]; omega, fun i => ?_⟩
    · rw [hlen] at hi
      obtain ⟨h1, h2, h3, h4, h5, h6, h7⟩ := hr i (by omega)
      obtain ⟨b, off, spot⟩ := a
      have hspot : spot = none := by simpa [Addr.add] using World.cell?_spot (hr 0 (by omega)).1
      subst hspot
      have hc1 : w.cell? ⟨b, off + i, none⟩ = some (.slice (A i) (L i) (C i)) := by rw [← Go.WideShapes.add_plain]; exact h1
      refine ⟨b, off, rfl, A i, C i, by rw [hc1, hrow i hi, hL i hi], ?_⟩
      rw [hrow i hi]
      intro k hk
      rw [hL i hi] at hk
      have hcp : 0 < C i := by omega
      cases hA : A i with
      | none => have := h6 hA; omega
      | some a' =>
        have hc2 := (h7 a' hA).2
        obtain ⟨b', off', spot'⟩ := a'
        have hspot' : spot' = none := by simpa [Addr.add] using World.cell?_spot (hc2 0 hcp)
        subst hspot'
        refine ⟨b', off', rfl, ?_⟩
        have := hc2 k (by omega)
        rw [Go.WideShapes.add_plain] at this
        rw [this, List.getElem?_take, if_pos hk, List.getD_eq_getElem?_getD]
    · by_cases hi : i < len
      · rw [hrow i hi, hL i hi]
        obtain ⟨_, h2, h3, h4, _⟩ := hr i (by omega)
        unfold maxLen at h3; omega
      · rw [List.getElem?_eq_none (by rw [hlen]; omega)]; simp
set_option maxRecDepth 100000 in
theorem open_rows {b0 : Nat} {r : Reach} {v : Value} {d : DataW H} {p : List MemPlace} (hv : Value.okWide Try.prog w r b0 35 v) (h : DataW.Trod enc Try.prog w base (fun _ => true) held 35 v d p) :
    ∃ rows, SlII w v rows ∧ rows.length ≤ 9223372036854775807 ∧ ∀ i : Nat, (rows[i]?.getD []).length ≤ 9223372036854775807 := by
  obtain ⟨a0, len, cap, rfl⟩ := Go.WideShapes.okWide_slice Try.underlying35 hv
  obtain ⟨fuel, hf⟩ := h
  simp only [Value.cells] at hf
  obtain ⟨v', rows, e, h1, h2, h3⟩ := rows_of_trod hf
  have e' : v' = .slice a0 len cap := by simpa using e.symm
  rw [e'] at h1
  exact ⟨rows, h1, h2, h3⟩
end
end Go.Proofs.Yteagecoiijhflaa

/- The three closed facts that speak of the whole program, with few signs for the kernel: only the head of the dump's first row is read. -/
namespace Go.Proofs.Yteagecoiijhflaa
open Go

theorem words_app : ∀ (a r : List Char), a.all (· != ' ') = true → wordsSigns (a ++ ' ' :: r) = a :: wordsSigns r
  | [], r, _ => by simp [wordsSigns]
  | c :: a, r, h => by
    simp only [List.all_cons, Bool.and_eq_true, bne_iff_ne, ne_eq] at h
    have ih := words_app a r (by simpa using h.2)
    rw [List.cons_append, wordsSigns, ih]
    exact h.1

theorem list_cut (l p : List Char) (n : Nat) (h : l.take n = p) : l = p ++ l.drop n := by
  rw [← h, List.take_append_drop]

theorem head_words (l t : List Char) (h1 : l.take 77 = "harness".toList ++ ' ' :: (t ++ ' ' :: ("cut".toList ++ [' '])))
    (ht : isSumSigns t = true) (hs : t.all (· != ' ') = true) :
    behindMainWord (wordsSigns l) = "cut".toList :: wordsSigns (l.drop 77) := by
  have e : l = "harness".toList ++ ' ' :: (t ++ ' ' :: ("cut".toList ++ ' ' :: l.drop 77)) := by
    have := list_cut l _ 77 h1
    simpa [List.append_assoc] using this
  have e2 : wordsSigns l = "harness".toList :: t :: "cut".toList :: wordsSigns (l.drop 77) := by
    conv => lhs; rw [e]
    rw [words_app _ _ (by decide), words_app _ _ hs, words_app _ _ (by decide)]
  rw [e2, behindMainWord, ht]
  simp

theorem strip_cut : ∀ (o : List String) (ws : List (List Char)), o.all (fun x => !("cut".toList == x.toList)) = true → stripLifts o ("cut".toList :: ws) = ([], "cut".toList :: ws)
  | [], _, _ => rfl
  | x :: o, ws, h => by
    simp only [List.all_cons, Bool.and_eq_true, Bool.not_eq_true'] at h
    rw [stripLifts, h.1]
    simp only [Bool.false_eq_true, if_false]
    exact strip_cut o ws (by simpa using h.2)

theorem strip_lifts (ws : List (List Char)) : stripLifts liftWords ("cut".toList :: ws) = ([], "cut".toList :: ws) :=
  strip_cut _ _ (by decide +kernel)

theorem lifts_of (P : Program) (ws : List (List Char)) (h : behindMainWord (wordsSigns P.initOrder.toList) = "cut".toList :: ws) :
    P.liftsFinal = false := by
  unfold Program.liftsFinal Program.headLifts
  rw [h, strip_lifts]
  have : ("cut".toList == "carried".toList) = false := by decide +kernel
  simp

theorem make_of (P : Program) (ws : List (List Char)) (h : behindMainWord (wordsSigns P.initOrder.toList) = "cut".toList :: ws) :
    P.make = some .cut := by
  unfold Program.make
  rw [h]
  rfl

theorem enter_of (P : Program) (ws : List (List Char)) (h : behindMainWord (wordsSigns P.initOrder.toList) = "cut".toList :: ws)
    (h1 : P.laysLater = false) (h2 : P.bearsReflect = false) (h3 : P.doorFits [] = true) : P.mayEnter = true := by
  unfold Program.mayEnter
  rw [h]
  simp only [strip_lifts, h1, h2, h3]
  simp

theorem head_cut : behindMainWord (wordsSigns Try.checked.prog.initOrder.toList) = "cut".toList :: wordsSigns (Try.checked.prog.initOrder.toList.drop 77) :=
  head_words _ ((Try.checked.prog.initOrder.toList.drop 8).take 64) (by kernel_rfl) (by kernel_rfl) (by kernel_rfl)

theorem c_lays : Try.checked.prog.laysLater = false := by kernel_rfl
theorem c_refl : Try.checked.prog.bearsReflect = false := by kernel_rfl
theorem c_door : Try.checked.prog.doorFits [] = true := by kernel_rfl

theorem c_enter : Try.checked.prog.mayEnter = true := enter_of _ _ head_cut c_lays c_refl c_door
theorem c_lifts : Try.checked.prog.liftsFinal = false := lifts_of _ _ head_cut
theorem c_make : Try.checked.prog.make = some .cut := make_of _ _ head_cut
end Go.Proofs.Yteagecoiijhflaa

/- DoRelationsHold returns what its reference returns, for all arguments. No condition. -/
namespace Go.Proofs.Yteagecoiijhflaa
open Go.ChangeShapes Go.WideShapes Go.ChangeAt Go.RowKit
open Go.ChangeMaps (open_string shut_string)
set_option linter.unusedVariables false
set_option linter.unusedSimpArgs false

set_option maxRecDepth 100000 in
set_option maxHeartbeats 6000000 in
theorem lawDoRelationsHold_core (m : Mch) (hwf : m.Wf) (v : Value) (rows : List Wd) (hn : rows.length ≤ 9223372036854775807) (hx : ∀ i : Nat, (rows[i]?.getD []).length ≤ 9223372036854775807) (w : World) (hS : SlII w v rows) :
    Calls Try.prog 4 #[.agg m.cells.toArray, v] w (Ret (.bool true) w) := by
  have hm := MAt.boxed w m 25
  have hb0 := boxedBelow w m.cells.toArray 25
  have hi : (Try.prog.info? 25).map (·.size) = some m.cells.length := by rw [Mch.cells_length hwf]; kernel_rfl
  have HI := Lib.hid hi
  have HS := Lib.hid hS
  have HX := Lib.hid hx
  have hS0 := hS.below hb0
  have HZ := Lib.hid (szInt64SS_any v rows 1048576 (by omega) (by omega) hn hx _ hS0)
  clear hi hx hS hS0
  go_enter Try.func4, Try.ntmps4
  go_wp2_with fail
  refine HZ.out.mono ?_
  rintro e w' ⟨r, rfl, hr, rfl⟩
  clear HZ
  rcases hr with rfl | ⟨hr0, hrl, hrx⟩
  · go_wp2_with fail
    go_ret
    exact ⟨rfl, hb0⟩
  · have HRX : Hid (∀ i : Nat, (rows[i]?.getD []).length ≤ 1100000) := fun i => by have := hrx i; omega
    have hr1 : ¬ r < 0 := by omega
    have hrange : (w.alloc (.cells m.cells.toArray 25)).rangeAt w.heap.size 0 m.cells := hm
    clear hrx
    go_wp2_with ((with_reducible refine ld_row ?_ 25 (.tmp 2) ?_ w.heap.size 0 ?_ m.cells (.struct _) hrange Try.underlying25 ?_ HI.out ?_); exact rfl; exact rfl; exact rfl; exact rfl)
    refine (toMachine_any m hwf _).mono ?_
    rintro e w1 ⟨rfl, hb1⟩
    have hbb1 := hb0.trans (hb1.mono hb0.size)
    have hm1 := hm.keep hb1 hwf
    clear hrange
    go_wp2_with fail
    refine (toInt64SS_any v rows (by omega) HRX.out _ (HS.out.below hbb1)).mono ?_
    rintro e w2 ⟨v2, rfl, hb2, hS2⟩
    have hbb2 := hbb1.trans (hb2.mono hbb1.size)
    have hm2 := hm1.keep hb2 hwf
    have HD2 := Lib.hid (specDoRelationsHold_any m hwf v2 rows (by omega) HRX.out _ hS2)
    obtain ⟨T, hT⟩ : ∃ T, T = drR m rows := ⟨_, rfl⟩
    rw [← hT] at HD2
    have HT := Lib.hid hT
    clear hS2 hm1 hT
    go_wp2_with fail
    refine HD2.out.mono ?_
    rintro e w3 ⟨rfl, hb3⟩
    have hbb3 := hbb2.trans (hb3.mono hbb2.size)
    have hm3 := hm2.keep hb3 hwf
    clear hm2 HD2
    go_wp2_with fail
    refine (toInt64SS_any v rows (by omega) HRX.out _ (HS.out.below hbb3)).mono ?_
    rintro e w4 ⟨v4, rfl, hb4, hS4⟩
    have HS4 := Lib.hid hS4
    have hbb4 := hbb3.trans (hb4.mono hbb3.size)
    have hm4 := hm3.keep hb4 hwf
    have hrange : w4.rangeAt w.heap.size 0 m.cells := hm4
    clear hS4 hm3
    go_wp2_with ((with_reducible refine ld_row ?_ 25 (.tmp 2) ?_ w.heap.size 0 ?_ m.cells (.struct _) hrange Try.underlying25 ?_ HI.out ?_); exact rfl; exact rfl; exact rfl; exact rfl)
    refine (toMachine_any m hwf _).mono ?_
    rintro e w5 ⟨rfl, hb5⟩
    have hbb5 := hbb4.trans (hb5.mono hbb4.size)
    have HS5 := Lib.hid (HS4.out.below hb5)
    have HD5 := Lib.hid (implDoRelationsHold_any m hwf v4 rows (by omega) HRX.out _ HS5.out)
    rw [← HT.out] at HD5
    clear hrange hm4 HS4
    go_wp2_with fail
    refine HD5.out.mono ?_
    rintro e w6 ⟨rfl, hb6⟩
    have hbb6 := hbb5.trans (hb6.mono hbb5.size)
    have HS6 := Lib.hid (HS5.out.below hb6)
    obtain ⟨tb, tc⟩ := T
    clear HD5 HS5 HT
    go_wp2_with fail
    refine (toInt64SS_any v rows (by omega) HRX.out _ (HS.out.below hbb6)).mono ?_
    rintro e w7 ⟨v7, rfl, hb7, hS7⟩
    have hbb7 := hbb6.trans (hb7.mono hbb6.size)
    have HE := Lib.hid (eqII_same v4 v7 rows (by omega) (fun i => by have := HRX.out i; omega) _ (HS6.out.below hb7) hS7)
    obtain ⟨a4, c4, e4, -⟩ := id HS6.out
    subst e4
    clear hS7
    go_wp2_with fail
    refine HE.out.mono ?_
    rintro e w8 ⟨rfl, n8, rfl⟩
    have hbb8 := below_dN hbb7 n8
    clear HE
    go_wp2_with fail
    go_ret
    exact ⟨rfl, hbb8⟩

set_option maxRecDepth 100000 in
theorem lawDoRelationsHold_lifted (os : Os) (started : os.Started) (H : Type) (enc : TypeId × Value → H) :
    ReturnsInHanded {} Try.checked os 4 .any (Rows.fnExactDoRelationsHoldSpec.pre6 enc Try.prog Try.f4 Rows.fnExactDoRelationsHoldRow.domain false) (Rows.fnExactDoRelationsHoldSpec.post enc Try.prog Try.f4 false true false false) := by
  refine returnsInHanded_of_change (C := Try.checked) Try.own started (by kernel_rfl) Try.func4
    (ChangeSpec.witness6 (enc := enc) (C := Try.checked) false ⟨#[], #[.agg ((Value.int .i64 0 :: Value.int .i64 0 :: List.replicate 96 (Value.int .u8 0)).toArray), .slice none 0 0], []⟩ 8 (by kernel_rfl) (by kernel_rfl) (by kernel_rfl) (by kernel_rfl)) ?_
  intro W base args ds gs before hval0 hW _ _
  have hval : ∀ (j : Nat) t v, Try.f4.params[j]? = some t → args[j]? = some v → Value.okWide Try.prog W .any base t v := hval0
  have hW' := hW
  obtain ⟨p, q, hA0, hV, rfl, _, _⟩ := hW
  have hA : DataW.TrodAll enc Try.prog W 0 (fun _ => true) true Try.f4.params.toList args.toList ds p := hA0
  rw [Try.params4] at hA hval
  obtain ⟨v0, v1, d0, d1, p0, p1, rfl, rfl, rfl, h0, h1⟩ := trodAll_two hA
  obtain ⟨rfl, rfl⟩ := trodVars_none hV
  obtain ⟨m, hwf, rfl⟩ := open_mach (hval 0 25 v0 rfl rfl) h0
  obtain ⟨rows, hS, hn, hx⟩ := open_rows (hval 1 35 v1 rfl rfl) h1
  refine (lawDoRelationsHold_core m hwf v1 rows hn hx W hS).mono fun e W' ⟨he, hb⟩ => ⟨_, he, ?_⟩
  exact law_post Try.laidOut (by kernel_rfl) hW' rfl rfl rfl rfl hb rfl Try.underlying4

theorem doRelationsHold_closed : joinedFacts Try.checked.prog 4 Try.f4 Rows.fnExactDoRelationsHoldSpec Rows.fnExactDoRelationsHoldRow = true := by
  unfold joinedFacts
  rw [c_enter, c_lifts, c_make]
  kernel_rfl

theorem doRelationsHold_holds : Rows.FnExactDoRelationsHoldSaid :=
  OpenClaim.holds_of_wide 4 Try.f4 rfl rfl rfl rfl rfl rfl rfl ⟨rfl, rfl, rfl, rfl, rfl⟩ rfl rfl rfl rfl rfl (by kernel_rfl) Try.func4 doRelationsHold_closed
    (of_decide_eq_true (by kernel_rfl)) (by unfold Func.isWrapper; first | (rw [if_pos (by decide +kernel)]; kernel_rfl) | (rw [if_neg (by decide +kernel)]; exact ⟨rfl, rfl⟩))
    (fun os started H enc _ => lawDoRelationsHold_lifted os started H enc)
#print axioms doRelationsHold_holds
end Go.Proofs.Yteagecoiijhflaa
