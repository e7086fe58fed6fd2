import Derived.Test.YteagecoiijhflaaZLReturnOf14
import Derived.OpenShut
import Derived.Deep.Strs
/- ReturnOf returns what its reference returns, for all arguments. No condition. -/
namespace Go.Proofs.Yteagecoiijhflaa
open Go.ChangeShapes Go.WideShapes Go.ChangeAt Go.RowKit Go.Joins
set_option linter.unusedVariables false
set_option linter.unusedSimpArgs false

section
variable {H : Type} {enc : TypeId × Value → H} {w : World} {base : Nat} {held : Bool}
set_option maxRecDepth 100000 in
theorem row_of_trod {n : Nat} {cs : List Value} {y : DataW H × List MemPlace} (h : DataW.trod enc Try.prog w base (fun _ => true) held n 26 cs = some y) :
    ∃ v xs, cs = [v] ∧ SlI w v xs ∧ xs.length ≤ 9223372036854775807 := by
  rcases open_ints Try.underlying26 Try.underlying2 (by kernel_rfl) h with ⟨rfl, _⟩ | ⟨a, len, cap, zs, rfl, _, hl, hm, hz, _, hc, _⟩
  · exact ⟨_, [], rfl, ⟨none, 0, rfl, fun i hi => by simp at hi⟩, by simp⟩
  · simp only [if_true] at hz
    have hlen : (zs.take len).length = len := by rw [List.length_take]; omega
    refine ⟨_, zs.take len, rfl, ⟨some a, cap, by rw [hlen], fun i hi => ?_⟩, by unfold maxLen at hm; omega⟩
    rw [hlen] at hi
    obtain ⟨b, off, rfl, hcell⟩ := ints_at hc (by omega)
    refine ⟨b, off, rfl, ?_⟩
    rw [hcell i (by omega), List.getElem?_take, if_pos hi, List.getD_eq_getElem?_getD]
set_option maxRecDepth 100000 in
theorem open_row {b0 : Nat} {r : Reach} {v : Value} {d : DataW H} {p : List MemPlace} (hv : Value.okWide Try.prog w r b0 26 v) (h : DataW.Trod enc Try.prog w base (fun _ => true) held 26 v d p) :
    ∃ xs, SlI w v xs ∧ xs.length ≤ 9223372036854775807 := by
  obtain ⟨a0, len, cap, rfl⟩ := Go.WideShapes.okWide_slice Try.underlying26 hv
  obtain ⟨fuel, hf⟩ := h
  simp only [Value.cells] at hf
  obtain ⟨v', xs, e, h1, h2⟩ := row_of_trod hf
  have e' : v' = .slice a0 len cap := by simpa using e.symm
  rw [e'] at h1
  exact ⟨xs, h1, h2⟩
end
set_option maxHeartbeats 1000000 in
theorem markI3_any (B : Nat) (v : Value) (xs : List Int) (k : Nat) (hx : xs.length ≤ 1100000) (hk : k ≤ 1000000) (w : World) (h : OwnI w B v xs) :
    Calls Try.prog 21 #[v, .int .i64 (k : Int)] w fun e w' => e = .returned (.int .i64 ((k + xs.length : Nat) : Int)) ∧ w.grownBy w' v.ownBlock ∧ OwnI w' B v (marks k xs.length) := by
  obtain ⟨a, c, rfl, -⟩ := h.form
  have H0 : Hid (OwnI w B (.slice a xs.length c) (mixM k 0 xs)) := by
    show OwnI _ _ _ _
    simpa [mixM, marks] using h
  clear h
  go_enter Try.func21, Try.ntmps21
  go_wp2
  go_loopw [1, 5] (fun u i wr => ∃ j : Nat, j ≤ xs.length ∧ i = .int .i64 j ∧ u = .int .i64 ((k + j : Nat) : Int) ∧ Hid (w.grownBy wr (Value.slice a xs.length c).ownBlock) ∧ Hid (OwnI wr B (.slice a xs.length c) (mixM k j xs))) (fun _ i _ => xs.length - (intOf i).toNat)
  case atStart => exact ⟨0, Nat.zero_le _, rfl, rfl, ⟨rfl, rfl, rfl, Nat.le_refl _, fun _ _ _ => rfl⟩, H0⟩
  case round =>
    clear H0
    obtain ⟨j, hj, rfl, rfl, HG, HO⟩ := hrel
    by_cases hlt : j < xs.length
    · have hO := HO.out
      have hlen := mixM_length k j xs hj
      obtain ⟨g, rfl, hgB⟩ : ∃ g, a = some ⟨g, 0, none⟩ ∧ B ≤ g := by
        rcases hO.2 with ⟨_, e⟩ | ⟨g, cap, cur, hv, h1, rest⟩
        · omega
        · simp at hv; exact ⟨g, hv.1, h1⟩
      have hO' : wr.ownsRow B 2 1 (.slice (some ⟨g, 0, none⟩) xs.length c) xs.length (i64s (mixM k j xs)) := by
        have := hO; rw [OwnI, hlen] at this; exact this
      have hcell := hO'.cellAt j (by omega)
      rw [i64s_get (by omega)] at hcell
      have hfz := hO'.frozenAt j
      have hset : Hid (OwnI (wr.setCell ⟨g, j, none⟩ (.int .i64 ((k + j : Nat) : Int))) B (.slice (some ⟨g, 0, none⟩) xs.length c) (mixM k (j + 1) xs)) := by
        have := (hO'.stored j (.int .i64 ((k + j : Nat) : Int))).1
        rw [mixM_succ k j xs hlt] at this
        show World.ownsRow _ _ _ _ _ _ _
        rw [mixM_length k (j + 1) xs hlt]
        exact this
      have HG2 : Hid (w.grownBy (wr.setCell ⟨g, j, none⟩ (.int .i64 ((k + j : Nat) : Int))) (Value.slice (some ⟨g, 0, none⟩) xs.length c).ownBlock) := by
        have hg := HG.out
        refine ⟨hg.os, hg.tape, hg.output, by have := hg.size; simpa [World.setCell] using this, fun b hb hne => ?_⟩
        have : b ≠ g := fun e => hne (by rw [e]; rfl)
        exact (heap_setCell_other wr ⟨g, j, none⟩ b _ this).trans (hg.block b hb hne)
      have i1 : (0 : Int) ≤ (j : Int) := by omega
      have i2 : (j : Int) < (xs.length : Int) := by omega
      obtain ⟨z, hz⟩ : ∃ z, (mixM k j xs)[j]?.getD 0 = z := ⟨_, rfl⟩
      rw [hz] at hcell
      clear hz hO hO' hlen
      go_wp2
      go_roundw
      case rel => exact ⟨j + 1, by omega, by go_num, by go_num, HG2, hset⟩
      case measure => simp [intOf]; omega
    · have hj' : j = xs.length := by omega
      subst hj'
      rw [mixM_all] at HO
      go_wp2
      go_ret
      exact ⟨rfl, HG.out, HO.out⟩

theorem retF_len (m : Mch) (g : Wd) (x : Int) : (retF m g x).1.length ≤ 1000 := by
  unfold retF
  split
  · simp
  · split
    · unfold retI retR
      split
      · simp
      · rename_i s k h
        split at h
        · cases h
        · rename_i hc
          injection h with h
          injection h with h1 h2
          subst h1
          have h3 := nrm_len m (ledS m (repW g (cycN m g x.toNat)) x.toNat)
          rw [ledS_len, repW_len] at h3
          simp only
          omega
    · simp
theorem Mm.ints {B : Nat} {w0 w : World} {L : List (Nat × List Value × TypeId)} {G : List (Value × TypeId × List Value)} (h : Mm B w0 w L G) (i : Nat) {a : Option Addr} {n c : Nat} {xs : List Int} (hi : G[i]? = some (.slice a n c, 2, i64s xs)) : IntsAt w a xs := by
  have ho := h.own _ (mem_of_get hi)
  simp only at ho
  obtain ⟨a', c', e, hI⟩ := (OwnI.of_row ho).form
  have : a = a' := by injection e
  rw [this]; exact hI

set_option maxRecDepth 100000 in
set_option maxHeartbeats 4000000 in
theorem lawReturnOf_core (m : Mch) (hwf : m.Wf) (v : Value) (g : Wd) (hn : g.length ≤ 9223372036854775807) (x : Int) (w : World) (hS : SlI w v g) :
    Calls Try.prog 3 #[.agg m.cells.toArray, v, .int .i64 x] w (Ret (.bool true) w) := by
  obtain ⟨a, c, rfl, hI⟩ := hS
  have HI0 := Lib.hid hI
  have hM0 := (Mm.start w).alloc m.cells.toArray 25
  have hi : (Try.prog.info? 25).map (·.size) = some m.cells.length := by rw [Mch.cells_length hwf]; kernel_rfl
  have HI := Lib.hid hi
  have HRL := Lib.hid (retF_len m g x)
  clear hi hI
  go_enter Try.func3, Try.ntmps3
  by_cases hbig : 1048576 < g.length
  · have hb := hM0.below
    have hbig' : (1048576 : Int) < (g.length : Int) := by omega
    clear hM0
    go_wp2_with fail
    go_ret
    exact ⟨rfl, hb⟩
  · have hbig' : (g.length : Int) ≤ 1048576 := by omega
    have hr1 : (w.alloc (.cells m.cells.toArray 25)).rangeAt w.heap.size 0 m.cells := hM0.mach 0 rfl
    go_wp2_with ((with_reducible refine ld_row ?_ 25 (.tmp 3) ?_ w.heap.size 0 ?_ m.cells (.struct _) hr1 Try.underlying25 ?_ HI.out ?_); exact rfl; exact rfl; exact rfl; exact rfl)
    refine (toMachine_any m hwf _).mono ?_
    rintro e w1 ⟨rfl, hb1⟩
    have hM1 := hM0.call hb1
    clear hM0 hr1
    go_wp2_with fail
    refine (toInt64S_any a g c (by omega) _ (HI0.out.keep hM1.below)).mono ?_
    rintro e w2 ⟨v2, rfl, hb2, hO2⟩
    obtain ⟨a2, c2, rfl, hI2⟩ := hO2.form
    have hM2 := hM1.call hb2
    have HSP := Lib.hid (specReturnOf_any m hwf a2 g c2 (by omega) x w2 hI2)
    clear hM1 hO2 hI2
    go_wp2_with fail
    refine HSP.out.mono ?_
    clear HSP
    obtain ⟨R, hR⟩ : ∃ R, R = retF m g x := ⟨_, rfl⟩
    have HR := Lib.hid hR
    rw [← hR] at HRL ⊢
    clear hR
    obtain ⟨xs, k, cd⟩ := R
    rintro e w3 ⟨v3, rfl, hb3, hO3⟩
    obtain ⟨a3, c3, rfl, -⟩ := hO3.form
    have hM3 := hM2.callOwn hb3 hO3 (by simp [i64s])
    simp only at hM3
    clear hM2 hO3
    go_wp2_with fail
    refine (toInt64S_any a g c (by omega) _ (HI0.out.keep hM3.below)).mono ?_
    rintro e w4 ⟨v4, rfl, hb4, hO4⟩
    obtain ⟨a4, c4, rfl, -⟩ := hO4.form
    have hM4 := hM3.callOwn hb4 hO4 (by simp [i64s])
    have hr4 : w4.rangeAt w.heap.size 0 m.cells := hM4.mach 0 rfl
    clear hM3 hO4
    go_wp2_with ((with_reducible refine ld_row ?_ 25 (.tmp 3) ?_ w.heap.size 0 ?_ m.cells (.struct _) hr4 Try.underlying25 ?_ HI.out ?_); exact rfl; exact rfl; exact rfl; exact rfl)
    refine (toMachine_any m hwf _).mono ?_
    rintro e w5 ⟨rfl, hb5⟩
    have hM5 := hM4.call hb5
    have HIM := Lib.hid (implReturnOf_any m hwf a4 g c4 (by omega) x w5 (hM5.ints 0 rfl))
    rw [← HR.out] at HIM
    clear hM4 hr4
    go_wp2_with fail
    refine HIM.out.mono ?_
    rintro e w6 ⟨v6, rfl, hb6, hO6⟩
    obtain ⟨a6, c6, rfl, -⟩ := hO6.form
    have hM6 := hM5.callOwn hb6 hO6 (by simp [i64s])
    simp only at hM6
    have hxl : xs.length ≤ 1000 := HRL.out
    clear hM5 hO6 HIM
    go_wp2_with fail
    refine (eqI_same a6 a3 c6 c3 xs (by omega) _ (hM6.ints 0 rfl) (hM6.ints 2 rfl)).mono ?_
    rintro e w7 ⟨rfl, hb7⟩
    have hM7 := hM6.call hb7
    clear hM6
    go_wp2_with fail
    refine (toInt64S_any a g c (by omega) _ (HI0.out.keep hM7.below)).mono ?_
    rintro e w8 ⟨v8, rfl, hb8, hO8⟩
    obtain ⟨a8, c8, rfl, hI8⟩ := hO8.form
    have hM8 := hM7.call hb8
    clear hM7 hO8
    go_wp2_with fail
    refine (eqI_same a4 a8 c4 c8 g (by omega) _ (hM8.ints 1 rfl) hI8).mono ?_
    rintro e w9 ⟨rfl, hb9⟩
    have hM9 := hM8.call hb9
    have hO9 := OwnI.of_row (hM9.own _ (mem_of_get (i := 1) rfl))
    have HMK := Lib.hid (markI3_any w.heap.size _ g 1 (by omega) (by omega) w9 (by simpa [i64s] using hO9))
    clear hM8 hI8 hO9
    go_wp2_with fail
    refine HMK.out.mono ?_
    rintro e w10 ⟨rfl, hg10, hO10⟩
    have hM10 := hM9.gcall 1 rfl hg10 hO10 (by simp [i64s])
    simp only [List.set_cons_zero, List.set_cons_succ] at hM10
    clear hM9 HMK hg10 hO10
    go_wp2_with fail
    refine (eqI_same a6 a3 c6 c3 xs (by omega) _ (hM10.ints 0 rfl) (hM10.ints 2 rfl)).mono ?_
    rintro e w11 ⟨rfl, hb11⟩
    have hM11 := hM10.call hb11
    have hO11 := OwnI.of_row (hM11.own _ (mem_of_get (i := 0) rfl))
    have HMK := Lib.hid (markI3_any w.heap.size _ xs 1 (by omega) (by omega) w11 (by simpa [i64s] using hO11))
    clear hM10 hO11
    go_wp2_with fail
    refine HMK.out.mono ?_
    rintro e w12 ⟨rfl, hg12, hO12⟩
    have hM12 := hM11.gcall 0 rfl hg12 hO12 (by simp [i64s])
    simp only [List.set_cons_zero, List.set_cons_succ] at hM12
    have hO12' := OwnI.of_row (hM12.own _ (mem_of_get (i := 0) rfl))
    have HHD := Lib.hid (heldI_any w.heap.size (.slice a6 xs.length c6) 1 xs.length (by omega) (by omega) w12 (by simpa [i64s] using hO12))
    clear hM11 HMK hg12 hO12 hO12'
    go_wp2_with fail
    refine HHD.out.mono ?_
    rintro e w13 ⟨rfl, hb13⟩
    have hM13 := hM12.call hb13
    have hr13 : w13.rangeAt w.heap.size 0 m.cells := hM13.mach 0 rfl
    clear hM12 HHD
    go_wp2_with ((with_reducible refine ld_row ?_ 25 (.tmp 3) ?_ w.heap.size 0 ?_ m.cells (.struct _) hr13 Try.underlying25 ?_ HI.out ?_); exact rfl; exact rfl; exact rfl; exact rfl)
    refine (toMachine_any m hwf _).mono ?_
    rintro e w14 ⟨rfl, hb14⟩
    have hM14 := hM13.call hb14
    clear hM13 hr13
    go_wp2_with fail
    refine (toInt64S_any a g c (by omega) _ (HI0.out.keep hM14.below)).mono ?_
    rintro e w15 ⟨v15, rfl, hb15, hO15⟩
    obtain ⟨a15, c15, rfl, hI15⟩ := hO15.form
    have hM15 := hM14.call hb15
    have HIM := Lib.hid (implReturnOf_any m hwf a15 g c15 (by omega) x w15 hI15)
    rw [← HR.out] at HIM
    clear hM14 hO15 hI15
    go_wp2_with fail
    refine HIM.out.mono ?_
    rintro e w16 ⟨v16, rfl, hb16, hO16⟩
    obtain ⟨a16, c16, rfl, hI16⟩ := hO16.form
    have hM16 := hM15.call hb16
    clear hM15 hO16 HIM
    go_wp2_with fail
    refine (eqI_same a16 a3 c16 c3 xs (by omega) _ hI16 (hM16.ints 2 rfl)).mono ?_
    rintro e w17 ⟨rfl, hb17⟩
    have hM17 := hM16.call hb17
    have hO17 := OwnI.of_row (hM17.own _ (mem_of_get (i := 0) rfl))
    have hO17' : OwnI w17 w.heap.size (.slice a6 xs.length c6) (marks 1 xs.length) := hO17
    have HHD := Lib.hid (heldI_any w.heap.size (.slice a6 xs.length c6) 1 xs.length (by omega) (by omega) w17 hO17')
    clear hM16 hI16 hO17 hO17'
    go_wp2_with fail
    refine HHD.out.mono ?_
    rintro e w18 ⟨rfl, hb18⟩
    have hbb := (hM17.call hb18).below
    clear hM17 HHD
    go_wp2_with fail
    go_ret
    exact ⟨rfl, hbb⟩

set_option maxRecDepth 100000 in
theorem lawReturnOf_lifted (os : Os) (started : os.Started) (H : Type) (enc : TypeId × Value → H) :
    ReturnsInHanded {} Try.checked os 3 .any (Rows.fnExactReturnOfSpec.pre6 enc Try.prog Try.f3 Rows.fnExactReturnOfRow.domain false) (Rows.fnExactReturnOfSpec.post enc Try.prog Try.f3 false true false false) := by
  refine returnsInHanded_of_change (C := Try.checked) Try.own started (by kernel_rfl) Try.func3
    (ChangeSpec.witness6 (enc := enc) (C := Try.checked) false ⟨#[], #[.agg ((Value.int .i64 0 :: Value.int .i64 0 :: List.replicate 96 (Value.int .u8 0)).toArray), .slice none 0 0, .int .i64 0], []⟩ 8 (by kernel_rfl) (by kernel_rfl) (by kernel_rfl) (by kernel_rfl)) ?_
  intro W base args ds gs before hval0 hW _ _
  have hval : ∀ (j : Nat) t v, Try.f3.params[j]? = some t → args[j]? = some v → Value.okWide Try.prog W .any base t v := hval0
  have hW' := hW
  obtain ⟨p, q, hA0, hV, rfl, _, _⟩ := hW
  have hA : DataW.TrodAll enc Try.prog W 0 (fun _ => true) true Try.f3.params.toList args.toList ds p := hA0
  rw [Try.params3] at hA hval
  obtain ⟨v0, v1, v2, d0, d1, d2, p0, p1, p2, rfl, rfl, rfl, h0, h1, h2⟩ := trodAll_three hA
  obtain ⟨rfl, rfl⟩ := trodVars_none hV
  obtain ⟨m, hwf, rfl⟩ := open_mach (hval 0 25 v0 rfl rfl) h0
  obtain ⟨g, hS, hn⟩ := open_row (hval 1 26 v1 rfl rfl) h1
  obtain ⟨x, rfl, rfl, rfl, wx2⟩ := open_int Try.underlying2 (hval 2 2 v2 rfl rfl) h2
  refine (lawReturnOf_core m hwf v1 g hn x W hS).mono fun e W' ⟨he, hb⟩ => ⟨_, he, ?_⟩
  exact law_post Try.laidOut (by kernel_rfl) hW' rfl rfl rfl rfl hb rfl Try.underlying4

theorem returnOf_closed : joinedFacts Try.checked.prog 3 Try.f3 Rows.fnExactReturnOfSpec Rows.fnExactReturnOfRow = true := by
  unfold joinedFacts
  rw [c_enter, c_lifts, c_make]
  kernel_rfl

theorem returnOf_holds : Rows.FnExactReturnOfSaid :=
  OpenClaim.holds_of_wide 3 Try.f3 rfl rfl rfl rfl rfl rfl rfl ⟨rfl, rfl, rfl, rfl, rfl⟩ rfl rfl rfl rfl rfl (by kernel_rfl) Try.func3 returnOf_closed
    (of_decide_eq_true (by kernel_rfl)) (by unfold Func.isWrapper; first | (rw [if_pos (by decide +kernel)]; kernel_rfl) | (rw [if_neg (by decide +kernel)]; exact ⟨rfl, rfl⟩))
    (fun os started H enc _ => lawReturnOf_lifted os started H enc)
#print axioms returnOf_holds
end Go.Proofs.Yteagecoiijhflaa
