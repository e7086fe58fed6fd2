import Derived.Test.YteagecoiijhflaaZLRelationsOf03
import Derived.Test.YteagecoiijhflaaZLRelationsOf04
import Derived.Test.YteagecoiijhflaaZLOrderOf19
import Derived.Test.YteagecoiijhflaaZLOrderOf
/- RelationsOf of the reference (printed by gen_re.py). -/
namespace Go.Proofs.Yteagecoiijhflaa
open Go.RowKit
set_option linter.unusedVariables false
set_option linter.unusedSimpArgs false

set_option maxRecDepth 100000 in
set_option maxHeartbeats 8000000 in
theorem specRelationsOf_any (m : Mch) (hwf : m.Wf) (l : Int) (w : World) :
    Calls Try.prog 36 #[.agg m.cells.toArray, .int .i64 l] w (RetII (relI m l).1 (relI m l).2 w) := by
  have HMX := Lib.hid (show Try.prog.follows .mixedOrders = true by kernel_rfl)
  have HIM := Lib.hid (mach_info hwf)
  obtain ⟨i0, hi0, hz0, hz1, hz2⟩ := info_parts Try.info2
  obtain ⟨j0, hj0, hy0, hy1, hy2⟩ := info_parts Try.info26
  have hM0 := (Mm.start w).alloc m.cells.toArray 29
  have hm := hM0.mach 0 rfl
  have HIS := Lib.hid (l01Is_any m hwf (w.alloc (.cells m.cells.toArray 29)))
  have HM0 := Lib.hid hM0
  clear hM0
  go_enter Try.func36, Try.ntmps36
  go_wp2_with ((with_reducible refine ld_mach ?_ (.tmp 2) ?_ (w.heap.size) (0) ?_ m hm hwf ?_); exact rfl; exact rfl; exact rfl)
  refine HIS.out.mono ?_
  rintro e w1 ⟨rfl, hb1⟩
  have hM1 := HM0.out.call hb1
  clear HM0 HIS hm hb1
  cases hp : machP m with
  | false =>
    have HD : Hid (relI m l = ([], 1)) := relI_off hp
    have hb := hM1.below
    have HN : Hid (OwnII w1 w.heap.size (.slice none 0 0) []) := OwnII.nil _ _ hM1.size
    clear hM1 hp
    go_wp2_with fail
    go_ret2
    rw [HD.out]
    exact ⟨_, rfl, hb, HN.out⟩
  | true =>
    have HRW := Lib.hid (l01In_any l 1 4)
    cases hr : inR l 1 4 with
    | false =>
      have HD : Hid (relI m l = ([], 2)) := relI_range hp hr
      have hb := hM1.below
      have HN : Hid (OwnII w1 w.heap.size (.slice none 0 0) []) := OwnII.nil _ _ hM1.size
      rw [hr] at HRW
      clear hM1 hp hr
      go_wp2_with (go_at_call 54; refine (HRW.out _).mono ?_; rintro e w' ⟨rfl, rfl⟩)
      go_ret2
      rw [HD.out]
      exact ⟨_, rfl, hb, HN.out⟩
    | true =>
      obtain ⟨n, rfl⟩ : ∃ n : Nat, l = (n : Int) := ⟨l.toNat, by simp only [inR, Bool.and_eq_true, decide_eq_true_eq] at hr; omega⟩
      have hn : 1 ≤ n ∧ n ≤ 4 := by simp only [inR, Bool.and_eq_true, decide_eq_true_eq] at hr; omega
      have hok := mach_ok hp
      have hs16 := hok.s_le
      have HMOK := Lib.hid hok
      have HC := Lib.hid (relI_code hp hr)
      have HMY := Lib.hid (relI_many hp hr)
      have HOK := Lib.hid (relI_ok hp hr)
      have HG := Lib.hid (l10Generators_any m hwf hok w1)
      have HGW := Lib.hid (genI_gw m)
      have hm1 := hM1.mach 0 rfl
      have HM1 := Lib.hid hM1
      have hgl := genI_len m hs16
      rw [hr] at HRW
      clear hp hok hM1 hr
      go_wp2_with (first | (go_at_call 54; refine (HRW.out _).mono ?_; rintro e w' ⟨rfl, rfl⟩) | ((with_reducible refine ld_mach ?_ (.tmp 2) ?_ (w.heap.size) (0) ?_ m hm1 hwf ?_); exact rfl; exact rfl; exact rfl))
      refine HG.out.mono ?_
      rintro e w3 ⟨v, rfl, hb3, hO3⟩
      obtain ⟨a, c, rfl, hI⟩ := id hO3.form
      have HI := Lib.hid hI
      have HM3 := Lib.hid (HM1.out.call hb3)
      have hbb := HM3.out.below
      have HN : Hid (OwnII w3 w.heap.size (.slice none 0 0) []) := OwnII.nil _ _ HM3.out.size
      have HMA : Hid (∀ W, Below w3.heap.size w3 W → MAt W w.heap.size 0 m) := fun W hW => (HM3.out.mach 0 rfl).keep hW hwf
      clear HG hO3 hb3 HM1 hI hm1 HRW
      have HGWg := HGW
      generalize genI m = GI at *
      obtain ⟨gs, gc⟩ := GI
      by_cases hc : gc = 0
      case neg =>
        have HD := Lib.hid (HC.out hc)
        have j2 : (gc != 0) = true := by simpa using hc
        clear HC HMY HOK hc
        go_wp2_with fail
        go_ret2
        rw [HD.out]
        exact ⟨_, rfl, hbb, HN.out⟩
      subst hc
      by_cases h8 : 8 < gs.length
      case pos =>
        have HD := Lib.hid (HMY.out rfl h8)
        have j1 : (8 : Int) < (gs.length : Int) := by omega
        clear HC HMY HOK
        go_wp2_with fail
        go_ret2
        rw [HD.out]
        exact ⟨_, rfl, hbb, HN.out⟩
      have HD := Lib.hid (HOK.out rfl h8)
      have j1 : ¬ (8 : Int) < (gs.length : Int) := by omega
      have h8' : gs.length ≤ 8 := by omega
      have HW0 := Lib.hid (ownII_void w3)
      have HB0 : Hid (Below w3.heap.size w3 ((w3.alloc (.cells #[] 2)).alloc (.cells #[.slice (some ⟨w3.heap.size, 0, none⟩) 0 0] 26))) := ((Below.refl _ _).alloc (Nat.le_refl _) _).alloc (by simp) _
      have HGW2 : Hid (GW m gs) := HGWg.out
      have HD2 : Hid (relI m (n : Int) = match relS m gs (levX gs n) (.ok []) with
            | .error c => ([], c)
            | .ok out => (out, 0)) := HD.out
      clear HC HMY HOK HGW HGWg HD
      go_wp2_with fail
      clear j1 h8
      go_loopw [8, 9] (fun o kv wr => ∃ k : Nat, k ≤ n ∧ kv = .int .i64 (k : Int) ∧ Hid (Below w3.heap.size w3 wr) ∧ Hid (OwnII wr w3.heap.size o (levX gs k))) (fun _ k _ => n - (intOf k).toNat)
      case atStart => exact ⟨0, Nat.zero_le _, rfl, HB0.out, HW0.out⟩
      case round =>
        clear HB0 HW0
        obtain ⟨k, hk, rfl, HB, HO⟩ := hrel
        obtain ⟨wt, rfl⟩ : ∃ wt, wt = wr := ⟨_, rfl⟩
        by_cases hlt : k < n
        · have ek : IntKind.i64.wrap ((k : Int) + 1) = (k : Int) + 1 := IntWalk.i64_in _ (by omega)
          have j3 : (k : Int) < (n : Int) := by omega
          have HQW : Hid (∀ g ∈ levX gs k, g.length = k ∧ GW m g) := fun g hg => levX_word HGW2.out k g hg
          have hQl := levX_small gs h8' (show k ≤ 4 by omega)
          have HGN : Hid (levX gs (k + 1) = nxtX gs (levX gs k) (levX gs k).length) := levX_succ gs k
          have hM2 := (Mm.start wt).newOwn #[] 26 0 rfl (by omega)
          obtain ⟨aq, cq, rfl, -⟩ := id HO.out.sl
          generalize levX gs k = Q at *
          go_wp2_with fail
          go_loopw [10, 11] (fun nv iv wm => ∃ (i : Nat) (rv : List Value), i ≤ Q.length ∧ iv = .int .i64 (i : Int) ∧ Hid (rv.length = (nxtX gs Q i).length) ∧ Mm wt.heap.size wt wm [] ((nv, 26, rv) :: rowG rv (nxtX gs Q i))) (fun _ i _ => Q.length - (intOf i).toNat)
          case atStart => exact ⟨0, [], Nat.zero_le _, rfl, rfl, hM2⟩
          case round =>
            clear hM2
            obtain ⟨i, rv, hi', rfl, HL, hM⟩ := hrel
            obtain ⟨wm, rfl⟩ : ∃ wm, wm = wr := ⟨_, rfl⟩
            by_cases hli : i < Q.length
            · obtain ⟨gq, cq', x, eo, cr, hOr⟩ := HO.out.elem hli
              injection eo with eo1 eo2 eo3
              subst eo1 eo3
              obtain ⟨ar, cr', rfl, -⟩ := hOr.form
              have HOr := Lib.hid hOr
              have HCR := Lib.hid cr
              have i1 : (0 : Int) ≤ (i : Int) := by omega
              have i2 : (i : Int) < (Q.length : Int) := by omega
              have ei : IntKind.i64.wrap ((i : Int) + 1) = (i : Int) + 1 := IntWalk.i64_in _ (by omega)
              have HSU := Lib.hid (nxtX_succ gs Q hli)
              have hnl := nxtX_len gs h8' Q i (by omega)
              have hgl : (Q[i]?.getD []).length = k := by
                rw [List.getElem?_eq_getElem hli, Option.getD_some]
                exact (HQW.out _ (List.getElem_mem hli)).1
              have HWG : Hid (GW m (Q[i]?.getD [])) := by
                rw [List.getElem?_eq_getElem hli, Option.getD_some]
                exact (HQW.out _ (List.getElem_mem hli)).2
              generalize Q[i]?.getD [] = wd at *
              generalize nxtX gs Q i = R at *
              have HWL : Hid (wd.length ≤ 1000000) := by show _ ≤ _; omega
              have HGL : Hid (wd.length = k) := hgl
              clear hOr cr hgl
              go_wp2_with fail
              go_loopw [10, 12] (fun nv qv wi => ∃ (s : Nat) (rv : List Value), s ≤ gs.length ∧ qv = .int .i64 (s : Int) ∧ Hid (rv.length = (R ++ stepP gs wd s).length) ∧ Mm wt.heap.size wt wi [] ((nv, 26, rv) :: rowG rv (R ++ stepP gs wd s))) (fun _ q _ => gs.length - (intOf q).toNat)
              case atStart => exact ⟨0, rv, Nat.zero_le _, rfl, by rw [stepP_zero, List.append_nil]; exact HL.out, by rw [stepP_zero, List.append_nil]; exact hM⟩
              case round =>
                clear hM HL
                obtain ⟨s, rv, hs, rfl, HL, hM⟩ := hrel
                have est : IntKind.i64.wrap ((s : Int) + 1) = (s : Int) + 1 := IntWalk.i64_in _ (by omega)
                have hsl := stepP_len gs wd s
                have HRL : Hid (rv.length ≤ 1000000) := by show _ ≤ _; rw [HL.out, List.length_append]; omega
                by_cases hlt2 : s < gs.length
                · have HBI := Lib.hid (HB.out.trans (hM.below.mono HB.out.size))
                  obtain ⟨bg, og, rfl, cg⟩ := HI.out s hlt2
                  have HCG := Lib.hid cg
                  have cg := (HBI.out.cell (World.block_lt_of_cell? _ _ cg)).trans cg
                  have cw := (hM.below.cell (World.block_lt_of_cell? _ _ HCR.out)).trans HCR.out
                  have s1 : (0 : Int) ≤ (s : Int) := by omega
                  have s2 : (s : Int) < (gs.length : Int) := by omega
                  have HYE := Lib.hid (stepP_yes (w := wd) hlt2)
                  have HNO := Lib.hid (stepP_no (w := wd) hlt2)
                  have HKM : Hid (gs[s]?.getD 0 ≠ 0 ∧ -(m.s : Int) ≤ gs[s]?.getD 0 ∧ gs[s]?.getD 0 ≤ m.s) := HGW2.out _ (by rw [List.getElem?_eq_getElem hlt2, Option.getD_some]; exact List.getElem_mem hlt2)
                  have HIG := Lib.hid (HI.out.keep HBI.out)
                  generalize gs[s]?.getD 0 = kk at *
                  obtain ⟨S0, hS0⟩ : ∃ S0 : World → Prop, S0 = fun W => W.cell? ⟨gq, i, none⟩ = some (.slice ar wd.length cr') ∧ W.cell? ⟨bg, og + s, none⟩ = some (.int .i64 kk) := ⟨_, rfl⟩
                  have HSK : Hid (∀ W, Below wt.heap.size wt W → S0 W) := fun W hW => by
                    rw [hS0]
                    have h1 := HB.out.trans (hW.mono HB.out.size)
                    have h2 := HI.out s hlt2
                    exact ⟨(hW.cell (World.block_lt_of_cell? _ _ HCR.out)).trans HCR.out, (h1.cell (World.block_lt_of_cell? _ _ HCG.out)).trans HCG.out⟩
                  have HS0 := Lib.hid hS0
                  have HMd : Hid (∀ d, Mm wt.heap.size wt (wr.drewN d).drew [] ((u10, 26, rv) :: rowG rv (R ++ stepP gs wd s))) := fun d => (hM.drewN d).drew
                  clear hS0
                  have hmE : ∃ b, b = mayE gs wd kk := ⟨_, rfl⟩
                  obtain ⟨b, hb⟩ := hmE
                  by_cases h0 : k = 0
                  case' pos =>
                    have hbt : b = true := by rw [hb]; exact mayE_nil (by have := HGL.out; omega)
                    have HY := Lib.hid (HYE.out (hb ▸ hbt))
                    have j4 : ((k : Int) == 0) = true := by simp [h0]
                    clear HYE HNO hb hbt h0
                    go_wp2_with fail
                    go_quiet (fail)
                    go_wp2_with fail
                  case' neg =>
                    have hnz : ¬ wd.length = 0 := by have := HGL.out; omega
                    have hbe : b = okP gs (lastW wd) kk := by rw [hb]; exact mayE_pos hnz
                    rw [← hb] at HYE HNO
                    have j4 : ((k : Int) == 0) = false := by simp; omega
                    have ek1 : IntKind.i64.wrap ((k : Int) - 1) = ((k - 1 : Nat) : Int) := by rw [IntWalk.i64_in _ (by omega)]; omega
                    have k1 : (0 : Int) ≤ ((k - 1 : Nat) : Int) := by omega
                    have k2 : ((k - 1 : Nat) : Int) < (wd.length : Int) := by have := HGL.out; omega
                    obtain ⟨aw, cw2, ew, hIw⟩ := HOr.out.form
                    injection ew with ew1 ew2 ew3
                    subst ew1 ew3
                    obtain ⟨bw, ow, rfl, cl⟩ := hIw (k - 1) (by have := HGL.out; omega)
                    have cl := (hM.below.cell (World.block_lt_of_cell? _ _ cl)).trans cl
                    have hlw : wd[k - 1]?.getD 0 = lastW wd := by rw [lastW, HGL.out]
                    rw [hlw] at cl
                    have HAP : Hid (∀ d, Calls Try.prog 73 #[.slice (some ⟨bg, og, none⟩) gs.length c, .int .i64 (lastW wd), .int .i64 kk] (wr.drewN d) (RetQ (.bool (okP gs (lastW wd) kk)) (wr.drewN d))) := fun d =>
                      l10Apart_any (some ⟨bg, og, none⟩) c gs (lastW wd) kk (by omega) (getD_range hs16 HWG.out _) (by have := HKM.out; omega) (wr.drewN d) (HIG.out.keep (dN_below wr d))
                    rw [← hbe] at HAP
                    generalize lastW wd = lw at *
                    clear hbe hIw hlw hb hnz ew2
                    cases b
                    case' false =>
                      have HN1 := Lib.hid (HNO.out rfl)
                      have HMe : Hid (∀ d, Mm wt.heap.size wt (wr.drewN d) [] ((u10, 26, rv) :: rowG rv (R ++ stepP gs wd s))) := fun d => hM.drewN d
                      clear HYE HNO hM
                      go_wp2_with fail
                      go_quiet ((go_at_call 73; exact Calls.quiet_of (HAP.out _)))
                      go_wp2_with fail
                      go_roundw
                      case rel => exact ⟨s + 1, rv, by omega, by go_num, by rw [HN1.out]; exact HL.out, by rw [HN1.out]; exact HMe.out _⟩
                      case measure => simp [intOf] <;> omega
                    have HY := Lib.hid (HYE.out rfl)
                    clear HYE HNO
                    go_wp2_with fail
                    go_quiet ((go_at_call 73; exact Calls.quiet_of (HAP.out _)))
                    go_wp2_with fail
                  all_goals
                    clear cg cw hM
                    refine region_A S0 [] 15 (fun W => Mm wt.heap.size wt W [] ((u10, 26, rv) :: rowG rv (R ++ stepP gs wd s))) rfl HMX.out (HMd.out _) (fun W h => HSK.out W h.below) (fun Wd hM hU => ?_)
                    clear HMd
                    (refine AnyS.take (i := 0) rfl (by kernel_rfl) (by kernel_rfl) (by kernel_rfl) (by rfl) (fun _ _ _ h => h) (by rfl) (by intro w; go_simp; with_reducible rfl) hU (fun hU => ?_); (try simp only [Act.put, List.setIfInBounds_toArray, List.set_cons_zero, List.set_cons_succ]); refine AnyS.take (i := 1) rfl (by kernel_rfl) (by kernel_rfl) (by kernel_rfl) (by rfl) (fun _ _ _ h => h) (by rfl) (by intro w; go_simp; with_reducible rfl) hU (fun hU => ?_); (try simp only [Act.put, List.setIfInBounds_toArray, List.set_cons_zero, List.set_cons_succ]); refine AnyS.take (i := 2) rfl (by kernel_rfl) (by kernel_rfl) (by kernel_rfl) (by rfl) (fun _ _ _ h => h) (by rfl) (by intro w; go_simp; with_reducible rfl) hU (fun hU => ?_); (try simp only [Act.put, List.setIfInBounds_toArray, List.set_cons_zero, List.set_cons_succ]); refine AnyS.take (i := 3) rfl (by kernel_rfl) (by kernel_rfl) (by kernel_rfl) (by rfl) (fun _ _ _ h => h) (by rfl) (by intro w; go_simp; with_reducible rfl) hU (fun hU => ?_); (try simp only [Act.put, List.setIfInBounds_toArray, List.set_cons_zero, List.set_cons_succ]))
                    (refine AnyS.takeS (i := 4) rfl (by kernel_rfl) (by kernel_rfl) (by kernel_rfl) (by rfl) (by kernel_rfl) (by kernel_rfl) (fun _ _ _ h => h) (by rfl) (by intro W hSw; rw [HS0.out] at hSw; have h1 := hSw.1; clear hSw; go_simp; with_reducible rfl) hU (fun hU => ?_); (try simp only [Act.put, List.setIfInBounds_toArray, List.set_cons_zero, List.set_cons_succ]))
                    (refine AnyS.take (i := 6) rfl (by kernel_rfl) (by kernel_rfl) (by kernel_rfl) (by rfl) (fun _ _ _ h => h) (by rfl) (by intro w; go_simp; with_reducible rfl) hU (fun hU => ?_); (try simp only [Act.put, List.setIfInBounds_toArray, List.set_cons_zero, List.set_cons_succ]); refine AnyS.take (i := 7) rfl (by kernel_rfl) (by kernel_rfl) (by kernel_rfl) (by rfl) (fun _ _ _ h => h) (by rfl) (by intro w; go_simp; with_reducible rfl) hU (fun hU => ?_); (try simp only [Act.put, List.setIfInBounds_toArray, List.set_cons_zero, List.set_cons_succ]); refine AnyS.take (i := 8) rfl (by kernel_rfl) (by kernel_rfl) (by kernel_rfl) (by rfl) (fun _ _ _ h => h) (by rfl) (by intro w; go_simp; with_reducible rfl) hU (fun hU => ?_); (try simp only [Act.put, List.setIfInBounds_toArray, List.set_cons_zero, List.set_cons_succ]))
                    (refine AnyS.takeS (i := 9) rfl (by kernel_rfl) (by kernel_rfl) (by kernel_rfl) (by rfl) (by kernel_rfl) (by kernel_rfl) (fun _ _ _ h => h) (by rfl) (by intro W hSw; rw [HS0.out] at hSw; have h1 := hSw.2; clear hSw; go_simp; with_reducible rfl) hU (fun hU => ?_); (try simp only [Act.put, List.setIfInBounds_toArray, List.set_cons_zero, List.set_cons_succ]))
                    refine AnyS.branch (rs := [5, 10]) (by kernel_rfl) (by simp) (AllS.cons rfl (fun K hK => ?_) (AllS.cons rfl (fun K hK => ?_) AllS.nil))
                    · skip
                      go_simp
                      refine (l01Own_any _ wd HWL.out w3.heap.size Wd (HOr.out.below hM.below)).mono ?_
                      rintro e W5 ⟨v5, rfl, hb5, hO5⟩
                      have hM := hM.callOwn hb5 hO5 (by simp [i64s])
                      refine hK.out _ _ (.inl (HSK.out _ hM.below)) (fun hU => ?_)
                      clear hK K hb5 hO5
                      (try simp only [Act.put, List.setIfInBounds_toArray, List.set_cons_zero, List.set_cons_succ])
                      (refine AnyS.branch (rs := [10]) (by kernel_rfl) (List.cons_ne_nil _ _) ?_; refine AllS.cons rfl ?_ AllS.nil; intro K hK)

                      have hM2 := hM.alloc #[.int .i64 kk] 2
                      go_simp
                      refine hK.out _ _ (.inl (HSK.out _ hM2.below)) (fun hU => ?_)
                      clear hK K hM
                      (try simp only [Act.put, List.setIfInBounds_toArray, List.set_cons_zero, List.set_cons_succ])
                      generalize W5.alloc (.cells #[.int .i64 kk] 2) = WX at *
                      generalize W5.heap.size = b6 at *
                      have hM := hM2
                      clear hM2

                      (refine AnyS.branch (rs := [11]) (by kernel_rfl) (List.cons_ne_nil _ _) ?_; refine AllS.cons rfl ?_ AllS.nil; intro K hK)
                      have hbl := hM.blk _ (List.mem_cons_self ..)
                      refine Mm.stepRow rfl (.tmp 81) (.tmp 86) 26 rfl hM 0 rfl Try.underlying26 hi0 hz0 hz1 hz2 rfl rfl rfl (n := 1) rfl (blk_own hbl.1 hbl.2 1 rfl (by omega)) (by simp [Value.oneCell']) (by have := HWL.out; simp only [i64s, List.length_map]; omega) (by simp) (by omega) ?_
                      intro v6 W6 hM6
                      refine hK.out _ _ (.inl (HSK.out _ hM6.below)) (fun hU => ?_)
                      clear hK K hbl hM
                      (try simp only [List.set_cons_zero] at hM6)
                      (try simp only [Act.put, List.setIfInBounds_toArray, List.set_cons_zero, List.set_cons_succ])
                      obtain ⟨g6, c6, rfl⟩ : ∃ g6 c6, v6 = .slice (some ⟨g6, 0, none⟩) ((i64s wd).length + 1) c6 := by
                        have ho := hM6.own _ (List.mem_cons_self ..)
                        simp only at ho
                        obtain ⟨g, c, e, -, -, -⟩ := own_form ho (by simp)
                        exact ⟨g, c, by rw [e]; simp⟩
                      (refine AnyS.branch (rs := [12]) (by kernel_rfl) (List.cons_ne_nil _ _) ?_; refine AllS.cons rfl ?_ AllS.nil; intro K hK)
                      have hM7 := hM6.alloc #[.slice (some ⟨g6, 0, none⟩) ((i64s wd).length + 1) c6] 26
                      go_simp
                      refine hK.out _ _ (.inl (HSK.out _ hM7.below)) (fun hU => ?_)
                      clear hK K hM6
                      (try simp only [Act.put, List.setIfInBounds_toArray, List.set_cons_zero, List.set_cons_succ])
                      generalize W6.alloc (.cells #[.slice (some ⟨g6, 0, none⟩) ((i64s wd).length + 1) c6] 26) = W7 at *
                      generalize W6.heap.size = b7 at *
                      (refine AnyS.branch (rs := [13]) (by kernel_rfl) (List.cons_ne_nil _ _) ?_; refine AllS.cons rfl ?_ AllS.nil; intro K hK)
                      have hbl := hM7.blk _ (List.mem_cons_self ..)
                      refine Mm.stepRow rfl (.tmp 76) (.tmp 88) 35 rfl hM7 1 rfl Try.underlying35 hj0 hy0 hy1 hy2 rfl rfl rfl (n := 1) rfl (blk_own hbl.1 hbl.2 1 rfl (by omega)) (by simp [Value.oneCell']) HRL.out (by simp) (by omega) ?_
                      intro v8 W8 hM8
                      refine hK.out _ _ (.inl (HSK.out _ hM8.below)) (fun hU => ?_)
                      clear hK K hbl hM7
                      (try simp only [List.set_cons_zero, List.set_cons_succ] at hM8)
                      (try simp only [Act.put, List.setIfInBounds_toArray, List.set_cons_zero, List.set_cons_succ])
                      (refine AnyS.take (i := 14) rfl (by kernel_rfl) (by kernel_rfl) (by kernel_rfl) (by rfl) (fun _ _ _ h => h) (by rfl) (by intro w; go_simp; with_reducible rfl) hU (fun hU => ?_); (try simp only [Act.put, List.setIfInBounds_toArray, List.set_cons_zero, List.set_cons_succ]))
                      refine AnyS.done (by kernel_rfl) ?_ _
                      clear hU
                      have HM8 : Hid (Mm wt.heap.size wt W8 [] ((v8, 26, rv ++ [.slice (some ⟨g6, 0, none⟩) ((i64s wd).length + 1) c6]) :: rowG (rv ++ [.slice (some ⟨g6, 0, none⟩) ((i64s wd).length + 1) c6]) (R ++ stepP gs wd (s + 1)))) := by
                        rw [HY.out, ← List.append_assoc]
                        refine Mm.rowPut (xs := wd ++ [kk]) ?_ HL.out
                        have h := hM8.sub (List.nil_sublist _)
                        simpa [i64s] using h
                      have HL8 : Hid ((rv ++ [Value.slice (some ⟨g6, 0, none⟩) ((i64s wd).length + 1) c6]).length = (R ++ stepP gs wd (s + 1)).length) := by
                        show _ = _
                        rw [HY.out, ← List.append_assoc, List.length_append, List.length_append, HL.out]; rfl
                      clear hM8
                      go_wp2_with fail
                      go_roundw
                      case rel => exact ⟨s + 1, _, by omega, by go_num, HL8.out, HM8.out⟩
                      case measure => simp [intOf] <;> omega
                    · skip
                      have hM2 := hM.alloc #[.int .i64 kk] 2
                      go_simp
                      refine hK.out _ _ (.inl (HSK.out _ hM2.below)) (fun hU => ?_)
                      clear hK K hM
                      (try simp only [Act.put, List.setIfInBounds_toArray, List.set_cons_zero, List.set_cons_succ])
                      generalize Wd.alloc (.cells #[.int .i64 kk] 2) = W5 at *
                      generalize Wd.heap.size = b6 at *
                      have hM := hM2
                      clear hM2
                      (refine AnyS.branch (rs := [5]) (by kernel_rfl) (List.cons_ne_nil _ _) ?_; refine AllS.cons rfl ?_ AllS.nil; intro K hK)

                      go_simp
                      refine (l01Own_any _ wd HWL.out w3.heap.size W5 (HOr.out.below hM.below)).mono ?_
                      rintro e WX ⟨v5, rfl, hb5, hO5⟩
                      have hM := hM.callOwn hb5 hO5 (by simp [i64s])
                      refine hK.out _ _ (.inl (HSK.out _ hM.below)) (fun hU => ?_)
                      clear hK K hb5 hO5
                      (try simp only [Act.put, List.setIfInBounds_toArray, List.set_cons_zero, List.set_cons_succ])

                      (refine AnyS.branch (rs := [11]) (by kernel_rfl) (List.cons_ne_nil _ _) ?_; refine AllS.cons rfl ?_ AllS.nil; intro K hK)
                      have hbl := hM.blk _ (List.mem_cons_self ..)
                      refine Mm.stepRow rfl (.tmp 81) (.tmp 86) 26 rfl hM 0 rfl Try.underlying26 hi0 hz0 hz1 hz2 rfl rfl rfl (n := 1) rfl (blk_own hbl.1 hbl.2 1 rfl (by omega)) (by simp [Value.oneCell']) (by have := HWL.out; simp only [i64s, List.length_map]; omega) (by simp) (by omega) ?_
                      intro v6 W6 hM6
                      refine hK.out _ _ (.inl (HSK.out _ hM6.below)) (fun hU => ?_)
                      clear hK K hbl hM
                      (try simp only [List.set_cons_zero] at hM6)
                      (try simp only [Act.put, List.setIfInBounds_toArray, List.set_cons_zero, List.set_cons_succ])
                      obtain ⟨g6, c6, rfl⟩ : ∃ g6 c6, v6 = .slice (some ⟨g6, 0, none⟩) ((i64s wd).length + 1) c6 := by
                        have ho := hM6.own _ (List.mem_cons_self ..)
                        simp only at ho
                        obtain ⟨g, c, e, -, -, -⟩ := own_form ho (by simp)
                        exact ⟨g, c, by rw [e]; simp⟩
                      (refine AnyS.branch (rs := [12]) (by kernel_rfl) (List.cons_ne_nil _ _) ?_; refine AllS.cons rfl ?_ AllS.nil; intro K hK)
                      have hM7 := hM6.alloc #[.slice (some ⟨g6, 0, none⟩) ((i64s wd).length + 1) c6] 26
                      go_simp
                      refine hK.out _ _ (.inl (HSK.out _ hM7.below)) (fun hU => ?_)
                      clear hK K hM6
                      (try simp only [Act.put, List.setIfInBounds_toArray, List.set_cons_zero, List.set_cons_succ])
                      generalize W6.alloc (.cells #[.slice (some ⟨g6, 0, none⟩) ((i64s wd).length + 1) c6] 26) = W7 at *
                      generalize W6.heap.size = b7 at *
                      (refine AnyS.branch (rs := [13]) (by kernel_rfl) (List.cons_ne_nil _ _) ?_; refine AllS.cons rfl ?_ AllS.nil; intro K hK)
                      have hbl := hM7.blk _ (List.mem_cons_self ..)
                      refine Mm.stepRow rfl (.tmp 76) (.tmp 88) 35 rfl hM7 1 rfl Try.underlying35 hj0 hy0 hy1 hy2 rfl rfl rfl (n := 1) rfl (blk_own hbl.1 hbl.2 1 rfl (by omega)) (by simp [Value.oneCell']) HRL.out (by simp) (by omega) ?_
                      intro v8 W8 hM8
                      refine hK.out _ _ (.inl (HSK.out _ hM8.below)) (fun hU => ?_)
                      clear hK K hbl hM7
                      (try simp only [List.set_cons_zero, List.set_cons_succ] at hM8)
                      (try simp only [Act.put, List.setIfInBounds_toArray, List.set_cons_zero, List.set_cons_succ])
                      (refine AnyS.take (i := 14) rfl (by kernel_rfl) (by kernel_rfl) (by kernel_rfl) (by rfl) (fun _ _ _ h => h) (by rfl) (by intro w; go_simp; with_reducible rfl) hU (fun hU => ?_); (try simp only [Act.put, List.setIfInBounds_toArray, List.set_cons_zero, List.set_cons_succ]))
                      refine AnyS.done (by kernel_rfl) ?_ _
                      clear hU
                      have HM8 : Hid (Mm wt.heap.size wt W8 [] ((v8, 26, rv ++ [.slice (some ⟨g6, 0, none⟩) ((i64s wd).length + 1) c6]) :: rowG (rv ++ [.slice (some ⟨g6, 0, none⟩) ((i64s wd).length + 1) c6]) (R ++ stepP gs wd (s + 1)))) := by
                        rw [HY.out, ← List.append_assoc]
                        refine Mm.rowPut (xs := wd ++ [kk]) ?_ HL.out
                        have h := hM8.sub (List.nil_sublist _)
                        simpa [i64s] using h
                      have HL8 : Hid ((rv ++ [Value.slice (some ⟨g6, 0, none⟩) ((i64s wd).length + 1) c6]).length = (R ++ stepP gs wd (s + 1)).length) := by
                        show _ = _
                        rw [HY.out, ← List.append_assoc, List.length_append, List.length_append, HL.out]; rfl
                      clear hM8
                      go_wp2_with fail
                      go_roundw
                      case rel => exact ⟨s + 1, _, by omega, by go_num, HL8.out, HM8.out⟩
                      case measure => simp [intOf] <;> omega
                · have hs' : s = gs.length := by omega
                  subst hs'
                  rw [stepP_all, ← HSU.out] at HL hM
                  have HM := Lib.hid hM
                  have q1 : ¬ ((gs.length : Int) < (gs.length : Int)) := by omega
                  clear hM
                  go_wp2_with fail
                  go_roundw
                  case rel => exact ⟨i + 1, rv, by omega, by go_num, HL.out, HM.out⟩
                  case measure => simp [intOf] <;> omega
            · have hi2 : i = Q.length := by omega
              subst hi2
              rw [← HGN.out] at HL hM
              have j5 : ¬ ((Q.length : Int) < (Q.length : Int)) := by omega
              have HO2 := Lib.hid ((OwnII.of hM HL.out).less HB.out.size)
              have HB2 := Lib.hid (HB.out.trans (hM.below.mono HB.out.size))
              clear hM
              go_wp2_with fail
              go_roundw
              case rel => exact ⟨k + 1, by omega, by go_num, HB2.out, HO2.out⟩
              case measure => simp [intOf] <;> omega
        · have hk' : k = n := by omega
          subst hk'
          have HQW : Hid (∀ g ∈ levX gs k, g.length = k ∧ GW m g) := fun g hg => levX_word HGW2.out k g hg
          have hQl := levX_small gs h8' (show k ≤ 4 by omega)
          obtain ⟨rvw, hlw, hMw⟩ := HO.out
          have hM2 : Mm w3.heap.size w3 wt [] ((u8, 26, rvw) :: rowG rvw (levX gs k)) := ⟨HB.out, hMw.size, hMw.blk, hMw.dist, hMw.own, hMw.sep, hMw.gdist⟩
          have hM3 := hM2.newOwn #[] 26 0 rfl (by omega)
          obtain ⟨aq, cq, rfl, -⟩ := id HO.out.sl
          generalize levX gs k = Q at *
          have j3 : ¬ (k : Int) < (k : Int) := by omega
          have HLW := Lib.hid hlw
          clear hMw hM2 HO HB hlw
          go_wp2_with fail
          go_loopw [13, 14] (fun ov iv wr => ∃ (i : Nat) (rvo : List Value) (rows : List Wd), i ≤ Q.length ∧ iv = .int .i64 (i : Int) ∧ Hid (relS m gs (Q.take i) (.ok []) = .ok rows) ∧ Hid ((rowG rvo rows).Sublist (rowG (rvw.take i) (Q.take i)) ∧ rvo.length = rows.length) ∧
            Mm w3.heap.size w3 wr [] ((ov, 26, rvo) :: (.slice aq Q.length cq, 26, rvw) :: rowG rvw Q)) (fun _ i _ => Q.length - (intOf i).toNat)
          case atStart => exact ⟨0, [], [], Nat.zero_le _, rfl, rfl, ⟨List.Sublist.refl _, rfl⟩, hM3⟩
          case round =>
            clear hM3
            obtain ⟨i, rvo, rows, hi, rfl, HS, HL, hM⟩ := hrel
            have hrows : rows.length ≤ 4096 := by
              have := relS_len HS.out
              simp at this; omega
            by_cases hli : i < Q.length
            · obtain ⟨gq, cq', ar, cr, eo, hrq, cw, hIw⟩ := hM.readR HLW.out (List.mem_cons_of_mem _ (List.mem_cons_self ..)) (fun x hx => List.mem_cons_of_mem _ (List.mem_cons_of_mem _ hx)) hli
              injection eo with eo1 eo2 eo3
              subst eo1 eo3
              have ei : IntKind.i64.wrap ((i : Int) + 1) = (i : Int) + 1 := IntWalk.i64_in _ (by omega)
              have i1 : (0 : Int) ≤ (i : Int) := by omega
              have i2 : (i : Int) < (Q.length : Int) := by omega
              have HST := Lib.hid (relS_step hli HS.out)
              have HTK := Lib.hid (rowG_take HLW.out hli)
              have HRQ := Lib.hid hrq
              have hgl : (Q[i]?.getD []).length = k := by
                rw [List.getElem?_eq_getElem hli, Option.getD_some]
                exact (HQW.out _ (List.getElem_mem hli)).1
              have HWG : Hid (GW m (Q[i]?.getD [])) := by
                rw [List.getElem?_eq_getElem hli, Option.getD_some]
                exact (HQW.out _ (List.getElem_mem hli)).2
              have HSUB : Hid (∀ c, relS m gs (Q.take (i + 1)) (.ok []) = .error c → relS m gs Q (.ok []) = .error c) := fun c h => relS_stop h
              generalize Q[i]?.getD [] = wd at *
              have HIW := Lib.hid hIw
              have HM := Lib.hid hM
              have HMd : Hid (∀ d, Mm w3.heap.size w3 (wr.drewN d).drew [] ((u13, 26, rvo) :: (.slice (some ⟨gq, 0, none⟩) Q.length cq, 26, rvw) :: rowG rvw Q)) := fun d => (hM.drewN d).drew
              have HMe : Hid (∀ d, Mm w3.heap.size w3 (wr.drewN d) [] ((u13, 26, rvo) :: (.slice (some ⟨gq, 0, none⟩) Q.length cq, 26, rvw) :: rowG rvw Q)) := fun d => hM.drewN d
              obtain ⟨S0, hS0⟩ : ∃ S0 : World → Prop, S0 = fun W => MAt W w.heap.size 0 m ∧ W.cell? ⟨gq, i, none⟩ = some (.slice ar wd.length cr) := ⟨_, rfl⟩
              have HSK : Hid (∀ d W, Below (wr.drewN d).drew.heap.size (wr.drewN d).drew W → S0 W) := fun d W hW => by
                rw [hS0]
                have h1 : Below wr.heap.size wr W := Below.trans (dN_below wr (d + 1)) hW
                exact ⟨HMA.out W (HM.out.below.trans (h1.mono HM.out.size)), (h1.cell (World.block_lt_of_cell? _ _ cw)).trans cw⟩
              have HS0 := Lib.hid hS0
              have HTV : Hid (∀ d W, Below (wr.drewN d).drew.heap.size (wr.drewN d).drew W → Calls Try.prog 62 #[.agg m.cells.toArray, .slice ar wd.length cr] W (Ret (.tuple #[.bool (trvR m wd).1, .int .i64 (trvR m wd).2]) W)) := fun d W hW =>
                l02Trivial_any m hwf HMOK.out ar wd cr HWG.out (by omega) W (HIW.out.keep (Below.trans (dN_below wr (d + 1)) hW))
              have HTC := Lib.hid (trvR_cases m wd)
              have HGL : Hid (wd.length = k) := hgl
              clear hM hIw hrq hS0 hgl
              by_cases h1 : k ≤ 1
              case' pos =>
                have hcy := Lib.hid (cycB2_one (gs := gs) (w := wd) (by have := HGL.out; omega))
                have j6 : ¬ ((1 : Int) < (k : Int)) := by omega
                have j6' : decide ((1 : Int) < (k : Int)) = false := decide_eq_false j6
                clear h1
                go_wp2_with fail
                go_quiet (fail)
                go_wp2_with fail
              case' neg =>
                have hcy := Lib.hid (cycB2_more (gs := gs) (w := wd) (by have := HGL.out; omega))
                have j6 : (1 : Int) < (k : Int) := by omega
                have j6' : decide ((1 : Int) < (k : Int)) = true := decide_eq_true j6
                have ek1 : IntKind.i64.wrap ((k : Int) - 1) = ((k - 1 : Nat) : Int) := by rw [IntWalk.i64_in _ (by omega)]; omega
                have k1 : (0 : Int) ≤ ((k - 1 : Nat) : Int) := by omega
                have k2 : ((k - 1 : Nat) : Int) < (wd.length : Int) := by have := HGL.out; omega
                have k3 : (0 : Int) < (wd.length : Int) := by have := HGL.out; omega
                obtain ⟨bw, ow, rfl, cl⟩ := HIW.out (k - 1) (by have := HGL.out; omega)
                obtain ⟨bw', ow', ew, ch⟩ := HIW.out 0 (by have := HGL.out; omega)
                injection ew with ew
                injection ew with ew1 ew2
                subst ew1 ew2
                rw [show wd[k - 1]?.getD 0 = lastW wd by rw [lastW, HGL.out]] at cl
                rw [show wd[0]?.getD 0 = headW wd from rfl, Nat.add_zero] at ch
                have HIG := Lib.hid (HI.out.keep HM.out.below)
                have HAP : Hid (∀ d, Calls Try.prog 73 #[.slice a gs.length c, .int .i64 (lastW wd), .int .i64 (headW wd)] (wr.drewN d) (RetQ (.bool (okP gs (lastW wd) (headW wd))) (wr.drewN d))) := fun d =>
                  l10Apart_any a c gs (lastW wd) (headW wd) (by omega) (getD_range hs16 HWG.out _) (getD_range hs16 HWG.out _) (wr.drewN d) (HIG.out.keep (dN_below wr d))
                generalize okP gs (lastW wd) (headW wd) = okv at *
                generalize lastW wd = lw at *
                generalize headW wd = hw at *
                clear h1
                cases okv
                case' false =>
                  have HS2 : Hid (relS m gs (Q.take (i + 1)) (.ok []) = .ok rows) := by show _ = _; rw [HST.out]; exact stW_no hcy.out
                  have HL2 : Hid ((rowG rvo rows).Sublist (rowG (rvw.take (i + 1)) (Q.take (i + 1))) ∧ rvo.length = rows.length) := ⟨by rw [HTK.out]; exact HL.out.1.trans (List.sublist_append_left _ _), HL.out.2⟩
                  clear hcy HST HTK
                  go_wp2_with fail
                  go_quiet ((go_at_call 73; exact Calls.quiet_of (HAP.out _)))
                  go_wp2_with fail
                  go_roundw
                  case rel => exact ⟨i + 1, rvo, rows, by omega, by go_num, HS2.out, HL2.out, HMe.out _⟩
                  case measure => simp [intOf] <;> omega
                go_wp2_with fail
                go_quiet ((go_at_call 73; exact Calls.quiet_of (HAP.out _)))
                go_wp2_with fail
              all_goals
                refine region_A S0 [] 11 (fun W => ∃ d, W = (wr.drewN d).drew) rfl HMX.out ⟨_, rfl⟩ (fun W h => by obtain ⟨d, rfl⟩ := h; exact HSK.out d _ (Below.refl _ _)) (fun W hW hU => ?_)
                obtain ⟨d, hWd⟩ := hW
                have HSK2 : Hid (∀ W', Below W.heap.size W W' → S0 W') := by rw [hWd]; exact HSK.out d
                have HTV2 := Lib.hid (HTV.out d W (by rw [← hWd]; exact Below.refl _ _))
                have HM2 : Hid (Mm w3.heap.size w3 W [] ((u13, 26, rvo) :: (.slice (some ⟨gq, 0, none⟩) Q.length cq, 26, rvw) :: rowG rvw Q)) := by rw [hWd]; exact HMd.out d
                clear hWd HSK HTV HMd HMe HM
                (refine AnyS.takeS (i := 0) rfl (by kernel_rfl) (by kernel_rfl) (by kernel_rfl) (by rfl) (by kernel_rfl) (by kernel_rfl) (fun _ _ _ h => h) (by rfl) (fun W hW => by rw [HS0.out] at hW; exact run_ld Try.underlying29 rfl HIM.out (.tmp 2) rfl rfl hW.1) hU (fun hU => ?_); (try simp only [Act.put, List.setIfInBounds_toArray, List.set_cons_zero, List.set_cons_succ]))
                (refine AnyS.take (i := 1) rfl (by kernel_rfl) (by kernel_rfl) (by kernel_rfl) (by rfl) (fun _ _ _ h => h) (by rfl) (by intro w; go_simp; with_reducible rfl) hU (fun hU => ?_); (try simp only [Act.put, List.setIfInBounds_toArray, List.set_cons_zero, List.set_cons_succ]); refine AnyS.take (i := 2) rfl (by kernel_rfl) (by kernel_rfl) (by kernel_rfl) (by rfl) (fun _ _ _ h => h) (by rfl) (by intro w; go_simp; with_reducible rfl) hU (fun hU => ?_); (try simp only [Act.put, List.setIfInBounds_toArray, List.set_cons_zero, List.set_cons_succ]); refine AnyS.take (i := 3) rfl (by kernel_rfl) (by kernel_rfl) (by kernel_rfl) (by rfl) (fun _ _ _ h => h) (by rfl) (by intro w; go_simp; with_reducible rfl) hU (fun hU => ?_); (try simp only [Act.put, List.setIfInBounds_toArray, List.set_cons_zero, List.set_cons_succ]))
                (refine AnyS.takeS (i := 4) rfl (by kernel_rfl) (by kernel_rfl) (by kernel_rfl) (by rfl) (by kernel_rfl) (by kernel_rfl) (fun _ _ _ h => h) (by rfl) (by intro W hSw; rw [HS0.out] at hSw; have h1 := hSw.2; clear hSw; go_simp; with_reducible rfl) hU (fun hU => ?_); (try simp only [Act.put, List.setIfInBounds_toArray, List.set_cons_zero, List.set_cons_succ]))
                (refine AnyS.branch (rs := [5]) (by kernel_rfl) (List.cons_ne_nil _ _) ?_; refine AllS.cons rfl ?_ AllS.nil; intro K hK)
                go_simp
                refine HTV2.out.mono ?_
                rintro e w4 ⟨rfl, hb4⟩
                have hM4 := HM2.out.call hb4
                have hS4 := HSK2.out _ hb4
                refine hK.out _ _ (.inl hS4) (fun hU => ?_)
                clear hK K hb4 HM2 HTV2 HSK2
                (try simp only [Act.put, List.setIfInBounds_toArray, List.set_cons_zero, List.set_cons_succ])
                (refine AnyS.take (i := 6) rfl (by kernel_rfl) (by kernel_rfl) (by kernel_rfl) (by rfl) (fun _ _ _ h => h) (by rfl) (by intro w; go_simp; with_reducible rfl) hU (fun hU => ?_); (try simp only [Act.put, List.setIfInBounds_toArray, List.set_cons_zero, List.set_cons_succ]); refine AnyS.take (i := 7) rfl (by kernel_rfl) (by kernel_rfl) (by kernel_rfl) (by rfl) (fun _ _ _ h => h) (by rfl) (by intro w; go_simp; with_reducible rfl) hU (fun hU => ?_); (try simp only [Act.put, List.setIfInBounds_toArray, List.set_cons_zero, List.set_cons_succ]); refine AnyS.take (i := 8) rfl (by kernel_rfl) (by kernel_rfl) (by kernel_rfl) (by rfl) (fun _ _ _ h => h) (by rfl) (by intro w; go_simp; with_reducible rfl) hU (fun hU => ?_); (try simp only [Act.put, List.setIfInBounds_toArray, List.set_cons_zero, List.set_cons_succ]); refine AnyS.take (i := 9) rfl (by kernel_rfl) (by kernel_rfl) (by kernel_rfl) (by rfl) (fun _ _ _ h => h) (by rfl) (by intro w; go_simp; with_reducible rfl) hU (fun hU => ?_); (try simp only [Act.put, List.setIfInBounds_toArray, List.set_cons_zero, List.set_cons_succ]); refine AnyS.take (i := 10) rfl (by kernel_rfl) (by kernel_rfl) (by kernel_rfl) (by rfl) (fun _ _ _ h => h) (by rfl) (by intro w; go_simp; with_reducible rfl) hU (fun hU => ?_); (try simp only [Act.put, List.setIfInBounds_toArray, List.set_cons_zero, List.set_cons_succ]))
                refine AnyS.done (by kernel_rfl) ?_ _
                clear hU
                rcases HTC.out with hc | hc | hc
                · have HS2 : Hid (relS m gs (Q.take (i + 1)) (.ok []) = .ok (rows ++ [wd])) := by show _ = _; rw [HST.out]; exact stW_yes hcy.out hc
                  have HL2 : Hid (∀ r0, rvw[i]? = some r0 → (rowG (rvo ++ [r0]) (rows ++ [wd])).Sublist (rowG (rvw.take (i + 1)) (Q.take (i + 1))) ∧ (rvo ++ [r0]).length = (rows ++ [wd]).length) := fun r0 h0 => by
                    refine ⟨?_, by simp [HL.out.2]⟩
                    rw [HTK.out, rowG_snoc _ _ HL.out.2, h0, Option.getD_some]
                    exact HL.out.1.append (List.Sublist.refl _)
                  have hrl : rvo.length ≤ 1000000 := by rw [HL.out.2]; omega
                  rw [HS0.out] at hS4
                  have cw4 := hS4.2
                  rw [hc]
                  clear hc HST HTK hcy hS4 HS0
                  go_wp2_with (at_builtin; refine Mm.append rfl (.tmp 132) (.tmp 137) 35 rfl hM4 0 rfl Try.underlying35 hj0 hy0 hy1 hy2 rfl rfl rfl rfl hrl (by omega) ?_)
                  intro g6 c6 w6 hM6
                  (try simp only [List.set_cons_zero] at hM6)
                  have HM6 := Lib.hid hM6
                  clear hM6 hM4 cw4
                  go_wp2_with fail
                  go_roundw
                  case rel => exact ⟨i + 1, _, rows ++ [wd], by omega, by go_num, HS2.out, HL2.out _ HRQ.out, HM6.out⟩
                  case measure => simp [intOf] <;> omega
                · have HS2 : Hid (relS m gs (Q.take (i + 1)) (.ok []) = .ok rows) := by show _ = _; rw [HST.out]; exact stW_else hcy.out hc
                  have HL2 : Hid ((rowG rvo rows).Sublist (rowG (rvw.take (i + 1)) (Q.take (i + 1))) ∧ rvo.length = rows.length) := ⟨by rw [HTK.out]; exact HL.out.1.trans (List.sublist_append_left _ _), HL.out.2⟩
                  have HM4 := Lib.hid hM4
                  rw [hc]
                  clear hM4 hc HST HTK hcy hS4 HS0
                  go_wp2_with fail
                  go_roundw
                  case rel => exact ⟨i + 1, rvo, rows, by omega, by go_num, HS2.out, HL2.out, HM4.out⟩
                  case measure => simp [intOf] <;> omega
                · have HS2 : Hid (relS m gs Q (.ok []) = .error 3) := HSUB.out 3 (by rw [HST.out]; exact stW_err hcy.out hc)
                  have HD3 : Hid (relI m (k : Int) = ([], 3)) := by show _ = _; rw [HD2.out, HS2.out]
                  have hb4 := hbb.trans (hM4.below.mono HM3.out.size)
                  have HN4 : Hid (OwnII w4 w.heap.size (.slice none 0 0) []) := OwnII.nil _ _ (Nat.le_trans HM3.out.size hM4.size)
                  rw [hc]
                  clear hM4 hc HST HTK hcy hS4 HS0
                  go_wp2_with fail
                  go_ret2
                  rw [HD3.out]
                  exact ⟨_, rfl, hb4, HN4.out⟩
            · have hi' : i = Q.length := by omega
              subst hi'
              rw [List.take_length] at HS
              have HD3 : Hid (relI m (k : Int) = (rows, 0)) := by show _ = _; rw [HD2.out, HS.out]
              have hsub := HL.out.1
              rw [List.take_length, ← HLW.out, List.take_length] at hsub
              have hM4 := hM.subG ((hsub.trans (List.sublist_cons_self _ _)).cons_cons _)
              have HO4 := Lib.hid ((OwnII.of hM4 HL.out.2).less HM3.out.size)
              have HB4 := Lib.hid (hbb.trans (hM.below.mono HM3.out.size))
              have j2 : ¬ ((Q.length : Int) < (Q.length : Int)) := by omega
              clear hM hM4 hsub
              go_wp2_with fail
              go_ret2
              rw [HD3.out]
              exact ⟨_, rfl, HB4.out, HO4.out⟩
end Go.Proofs.Yteagecoiijhflaa

/- How many relations there are. -/
namespace Go.Proofs.Yteagecoiijhflaa
open Go.RowKit
set_option linter.unusedVariables false
set_option linter.unusedSimpArgs false

theorem relS_mem {m : Mch} {gs : List Int} : ∀ {ws out rows : List Wd}, relS m gs ws (.ok out) = .ok rows → ∀ w ∈ rows, w ∈ out ∨ w ∈ ws
  | [], out, rows, h, w, hw => by injection h with h; subst h; exact .inl hw
  | x :: ws, out, rows, h, w, hw => by
    have h' : relS m gs ws (stW m gs (.ok out) x) = .ok rows := h
    simp only [stW] at h'
    split at h'
    · exact (relS_mem h' w hw).imp id (List.mem_cons_of_mem _)
    · split at h'
      · rw [relS_err] at h'; cases h'
      · rcases relS_mem h' w hw with k | k
        · split at k
          · rcases List.mem_append.1 k with k | k
            · exact .inl k
            · rw [List.mem_singleton.1 k]; exact .inr (List.mem_cons_self ..)
          · exact .inl k
        · exact .inr (List.mem_cons_of_mem _ k)
theorem sumLen_fit {rows : List Wd} {n : Nat} (h : ∀ w ∈ rows, w.length ≤ n) : ∀ i, i ≤ rows.length → sumLen rows i ≤ n * i
  | 0, _ => by simp [sumLen]
  | i + 1, hi => by
    have h1 := sumLen_fit h i (by omega)
    rw [sumLen_succ rows i (by omega), Nat.mul_succ]
    have h2 := h (rows[i]?.getD []) (by rw [List.getElem?_eq_getElem (by omega), Option.getD_some]; exact List.getElem_mem _)
    omega
theorem rows_fit {rows : List Wd} {n k : Nat} (h : ∀ w ∈ rows, w.length ≤ n) (hk : rows.length ≤ k) (h1 : k ≤ 100000) (h2 : n * k ≤ 200000) (h3 : n ≤ 2000000) :
    rows.length ≤ 100000 ∧ sumLen rows rows.length ≤ 200000 ∧ ∀ i : Nat, (rows[i]?.getD []).length ≤ 2000000 := by
  refine ⟨by omega, Nat.le_trans (sumLen_fit h _ (Nat.le_refl _)) (Nat.le_trans (Nat.mul_le_mul_left _ hk) h2), fun i => ?_⟩
  by_cases hi : i < rows.length
  · rw [List.getElem?_eq_getElem hi, Option.getD_some]
    exact Nat.le_trans (h _ (List.getElem_mem hi)) h3
  · rw [List.getElem?_eq_none (by omega)]; simp
theorem relI_fit (m : Mch) (l : Int) : (relI m l).1.length ≤ 100000 ∧ sumLen (relI m l).1 (relI m l).1.length ≤ 200000 ∧ ∀ i : Nat, ((relI m l).1[i]?.getD []).length ≤ 2000000 := by
  have h0 : ([] : List Wd).length ≤ 100000 ∧ sumLen [] ([] : List Wd).length ≤ 200000 ∧ ∀ i : Nat, (([] : List Wd)[i]?.getD []).length ≤ 2000000 := ⟨by simp, by simp [sumLen], fun i => by simp⟩
  unfold relI
  split
  · exact h0
  · split
    · exact h0
    · rename_i hr
      have hl : l.toNat ≤ 4 := by simp only [inR, Bool.and_eq_true, decide_eq_true_eq] at hr; omega
      split
      · exact h0
      · split
        · exact h0
        · rename_i h8
          split
          · exact h0
          · rename_i rows hs
            refine rows_fit (n := 4) (k := 4096) (fun w hw => ?_) ?_ (by omega) (by omega) (by omega)
            · rcases relS_mem hs w hw with k | k
              · cases k
              · have := (levX_word (genI_gw m) _ w k).1; omega
            · have h1 := relS_len hs
              have h2 := levX_small (genI m).1 (by omega) hl
              rw [List.length_nil, Nat.zero_add] at h1
              show rows.length ≤ 4096
              omega
end Go.Proofs.Yteagecoiijhflaa

/- RelationsOf returns what its reference returns, for all arguments. No condition. -/
namespace Go.Proofs.Yteagecoiijhflaa
open Go.ChangeShapes Go.WideShapes Go.ChangeAt Go.RowKit Go.Joins
open Go.ChangeMaps (open_string shut_string)
set_option linter.unusedVariables false
set_option linter.unusedSimpArgs false

set_option maxRecDepth 100000 in
set_option maxHeartbeats 6000000 in
theorem lawRelationsOf_core (m : Mch) (hwf : m.Wf) (q : Int) (xs : List (List Int)) (c : Int) (hx : xs.length ≤ 100000 ∧ sumLen xs xs.length ≤ 200000 ∧ ∀ i : Nat, (xs[i]?.getD []).length ≤ 2000000)
    (hS : ∀ w, Calls Try.prog 36 #[.agg m.cells.toArray, .int .i64 q] w (RetII xs c w)) (hI : ∀ w, Calls Try.prog 37 #[.agg m.cells.toArray, .int .i64 q] w (RetII xs c w)) (w : World) :
    Calls Try.prog 9 #[.agg m.cells.toArray, .int .i64 q] w (Ret (.bool true) w) := by
  have HS := Lib.hid hS
  have HIM := Lib.hid hI
  have HX := Lib.hid hx
  clear hS hI hx
  have hm := MAt.boxed w m 25
  have hb0 := boxedBelow w m.cells.toArray 25
  have HW := Lib.hid hwf
  have hi : (Try.prog.info? 25).map (·.size) = some m.cells.length := by rw [Mch.cells_length hwf]; kernel_rfl
  have HI := Lib.hid hi
  have hr : (w.alloc (.cells m.cells.toArray 25)).rangeAt w.heap.size 0 m.cells := hm
  clear hi
  go_enter Try.func9, Try.ntmps9
  go_wp2_with ((with_reducible refine ld_row ?_ 25 (.tmp 2) ?_ w.heap.size 0 ?_ m.cells (.struct _) hr Try.underlying25 ?_ HI.out ?_); exact rfl; exact rfl; exact rfl; exact rfl)
  refine (toMachine_any m hwf _).mono ?_
  rintro e w1 ⟨rfl, hb1⟩
  have hbb1 := hb0.trans (hb1.mono hb0.size)
  have hm1 := hm.keep hb1 hwf
  go_wp2_with fail
  refine (HS.out _).mono ?_
  rintro e w2 ⟨v, rfl, hb2, hO2⟩
  have HO2 := Lib.hid hO2
  have hbb2 := hbb1.trans (hb2.mono hbb1.size)
  have hm2 := hm1.keep hb2 hwf
  have hr2 : w2.rangeAt w.heap.size 0 m.cells := hm2
  clear hO2
  go_wp2_with ((with_reducible refine ld_row ?_ 25 (.tmp 2) ?_ w.heap.size 0 ?_ m.cells (.struct _) hr2 Try.underlying25 ?_ HI.out ?_); exact rfl; exact rfl; exact rfl; exact rfl)
  refine (toMachine_any m hwf _).mono ?_
  rintro e w3 ⟨rfl, hb3⟩
  have hbb3 := hbb2.trans (hb3.mono hbb2.size)
  have hm3 := hm2.keep hb3 hwf
  have HV3 : Hid (SlII w3 v xs) := (HO2.out.below hb3).sl
  clear HO2
  go_wp2_with fail
  refine (HIM.out _).mono ?_
  rintro e w4 ⟨u, rfl, hb4, hO4⟩
  have HU4 := Lib.hid hO4
  have hbb4 := hbb3.trans (hb4.mono hbb3.size)
  have hm4 := hm3.keep hb4 hwf
  have HV4 := Lib.hid (HV3.out.below hb4)
  have HF2 := Lib.hid HU4.out.sl
  clear hO4
  obtain ⟨a1, c1, rfl, -⟩ := id HV3.out
  obtain ⟨a2, c2, rfl, -⟩ := id HF2.out
  go_wp2_with fail
  refine (eqII_same _ _ xs (by have := HX.out.1; omega) HX.out.2.2 _ HF2.out HV4.out).mono ?_
  rintro e w5 ⟨rfl, n5, e5⟩
  have hb5 : Below w4.heap.size w4 w5 := by rw [e5]; exact ⟨rfl, rfl, rfl, Nat.le_refl _, fun _ _ => rfl⟩
  clear e5
  have hbb5 := hbb4.trans (hb5.mono hbb4.size)
  have hm5 := hm4.keep hb5 hwf
  have HU5 := Lib.hid (HU4.out.below hb5)
  have h35 := hb4.trans (hb5.mono hb4.size)
  go_wp2_with fail
  refine (markII_any w3.heap.size _ xs 1 (by have := HX.out.1; omega) (by have := HX.out.2.1; omega) (by omega) _ HU5.out).mono ?_
  rintro e w6 ⟨rfl, hb6, hM6⟩
  have HM6 := Lib.hid hM6
  clear hM6
  have hbb6 := hbb5.trans (hb6.mono (Nat.le_trans hbb3.size (Nat.le_refl _)))
  have hm6 : MAt w6 w.heap.size 0 m := hm5.below hb6 (World.block_lt_of_cell? w3 ⟨w.heap.size, 0, none⟩ hm3.l)
  have HV6 := Lib.hid (HV3.out.below (h35.trans hb6))
  have hx1 := HX.out.2.1
  go_wp2_with fail
  refine (heldII_any w3.heap.size _ xs 1 (by have := HX.out.1; omega) (by omega) (by omega) _ HM6.out).mono ?_
  rintro e w7 ⟨rfl, hb7⟩
  have hbb7 := hbb6.trans (hb7.mono hbb6.size)
  have hm7 := hm6.keep hb7 hwf
  have HM7 := Lib.hid (HM6.out.below hb7)
  have HV7 := Lib.hid (HV6.out.below hb7)
  have hr7 : w7.rangeAt w.heap.size 0 m.cells := hm7
  go_wp2_with ((with_reducible refine ld_row ?_ 25 (.tmp 2) ?_ w.heap.size 0 ?_ m.cells (.struct _) hr7 Try.underlying25 ?_ HI.out ?_); exact rfl; exact rfl; exact rfl; exact rfl)
  refine (toMachine_any m hwf _).mono ?_
  rintro e w8 ⟨rfl, hb8⟩
  have hbb8 := hbb7.trans (hb8.mono hbb7.size)
  have HM8 := Lib.hid (HM7.out.below hb8)
  have HV8 := Lib.hid (HV7.out.below hb8)
  go_wp2_with fail
  refine (HIM.out _).mono ?_
  rintro e w9 ⟨u9, rfl, hb9, hO9⟩
  have HF9 := Lib.hid hO9.sl
  clear hO9
  obtain ⟨a9, c9, rfl, -⟩ := id HF9.out
  have hbb9 := hbb8.trans (hb9.mono hbb8.size)
  have HM9 := Lib.hid (HM8.out.below hb9)
  have HV9 := Lib.hid (HV8.out.below hb9)
  go_wp2_with fail
  refine (eqII_same _ _ xs (by have := HX.out.1; omega) HX.out.2.2 _ HF9.out HV9.out).mono ?_
  rintro e w10 ⟨rfl, n10, e10⟩
  have hb10 : Below w9.heap.size w9 w10 := by rw [e10]; exact ⟨rfl, rfl, rfl, Nat.le_refl _, fun _ _ => rfl⟩
  clear e10
  have hbb10 := hbb9.trans (hb10.mono hbb9.size)
  have HM10 := Lib.hid (HM9.out.below hb10)
  go_wp2_with fail
  refine (heldII_any w3.heap.size _ xs 1 (by have := HX.out.1; omega) (by omega) (by omega) _ HM10.out).mono ?_
  rintro e w11 ⟨rfl, hb11⟩
  have hbb11 := hbb10.trans (hb11.mono hbb10.size)
  go_wp2_with fail
  go_ret
  exact ⟨rfl, hbb11⟩

set_option maxRecDepth 100000 in
theorem lawRelationsOf_lifted (os : Os) (started : os.Started) (H : Type) (enc : TypeId × Value → H) :
    ReturnsInHanded {} Try.checked os 9 .any (Rows.fnExactRelationsOfSpec.pre6 enc Try.prog Try.f9 Rows.fnExactRelationsOfRow.domain false) (Rows.fnExactRelationsOfSpec.post enc Try.prog Try.f9 false true false false) := by
  refine returnsInHanded_of_change (C := Try.checked) Try.own started (by kernel_rfl) Try.func9
    (ChangeSpec.witness6 (enc := enc) (C := Try.checked) false ⟨#[], #[.agg ((Value.int .i64 0 :: Value.int .i64 0 :: List.replicate 96 (Value.int .u8 0)).toArray), .int .i64 0], []⟩ 8 (by kernel_rfl) (by kernel_rfl) (by kernel_rfl) (by kernel_rfl)) ?_
  intro W base args ds gs before hval0 hW _ _
  have hval : ∀ (j : Nat) t v, Try.f9.params[j]? = some t → args[j]? = some v → Value.okWide Try.prog W .any base t v := hval0
  have hW' := hW
  obtain ⟨p, q, hA0, hV, rfl, _, _⟩ := hW
  have hA : DataW.TrodAll enc Try.prog W 0 (fun _ => true) true Try.f9.params.toList args.toList ds p := hA0
  rw [Try.params9] at hA hval
  obtain ⟨v0, v1, d0, d1, p0, p1, rfl, rfl, rfl, h0, h1⟩ := trodAll_two hA
  obtain ⟨rfl, rfl⟩ := trodVars_none hV
  obtain ⟨m, hwf, rfl⟩ := open_mach (hval 0 25 v0 rfl rfl) h0
  obtain ⟨q, rfl, rfl, rfl, wx1⟩ := open_int Try.underlying2 (hval 1 2 v1 rfl rfl) h1
  refine (lawRelationsOf_core m hwf q _ _ (relI_fit m q) (fun w => specRelationsOf_any m hwf q w) (fun w => implRelationsOf_any m hwf q w) W).mono fun e W' ⟨he, hb⟩ => ⟨_, he, ?_⟩
  exact law_post Try.laidOut (by kernel_rfl) hW' rfl rfl rfl rfl hb rfl Try.underlying4

theorem relationsOf_closed : joinedFacts Try.checked.prog 9 Try.f9 Rows.fnExactRelationsOfSpec Rows.fnExactRelationsOfRow = true := by
  unfold joinedFacts
  rw [c_enter, c_lifts, c_make]
  kernel_rfl

theorem relationsOf_holds : Rows.FnExactRelationsOfSaid :=
  OpenClaim.holds_of_wide 9 Try.f9 rfl rfl rfl rfl rfl rfl rfl ⟨rfl, rfl, rfl, rfl, rfl⟩ rfl rfl rfl rfl rfl (by kernel_rfl) Try.func9 relationsOf_closed
    (of_decide_eq_true (by kernel_rfl)) (by unfold Func.isWrapper; first | (rw [if_pos (by decide +kernel)]; kernel_rfl) | (rw [if_neg (by decide +kernel)]; exact ⟨rfl, rfl⟩))
    (fun os started H enc _ => lawRelationsOf_lifted os started H enc)
#print axioms relationsOf_holds
end Go.Proofs.Yteagecoiijhflaa
