import Derived.Test.YteagecoiijhflaaZLTorsionUpTo01
import Derived.Test.YteagecoiijhflaaZLOrderOf19
import Derived.Test.YteagecoiijhflaaZLOrderOf
/- TorsionUpTo of the reference (printed by gen_hu.py). -/
namespace Go.Proofs.Yteagecoiijhflaa
open Go.RowKit
set_option linter.unusedVariables false
set_option linter.unusedSimpArgs false

theorem ownII_empty (w : World) : OwnII ((w.alloc (.cells #[] 2)).alloc (.cells #[.slice (some ⟨w.heap.size, 0, none⟩) 0 0] 26)) w.heap.size (.slice (some ⟨w.heap.size + 1, 0, none⟩) 1 1) [[]] := by
  have hM0 := ((Mm.start w).newOwn #[] 2 0 rfl (by omega)).newOwn #[.slice (some ⟨w.heap.size, 0, none⟩) 0 0] 26 1 rfl (by omega)
  rw [World.size_alloc] at hM0
  exact OwnII.of (rv := [.slice (some ⟨w.heap.size, 0, none⟩) 0 0]) hM0 rfl

set_option maxRecDepth 100000 in
set_option maxHeartbeats 4000000 in
theorem specTorsionUpTo_any (m : Mch) (hwf : m.Wf) (r : Int) (w : World) :
    Calls Try.prog 34 #[.agg m.cells.toArray, .int .i64 r] w (RetB (torI m r) w) := by
  have HMX := Lib.hid (show Try.prog.follows .mixedOrders = true by kernel_rfl)
  have HIM := Lib.hid (mach_info hwf)
  have hM0 := (Mm.start w).alloc m.cells.toArray 29
  have hm := hM0.mach 0 rfl
  have HIS := Lib.hid (l01Is_any m hwf (w.alloc (.cells m.cells.toArray 29)))
  have HM0 := Lib.hid hM0
  clear hM0
  go_enter Try.func34, Try.ntmps34
  go_wp2_with ((with_reducible refine ld_mach ?_ (.tmp 2) ?_ (w.heap.size) (0) ?_ m hm hwf ?_); exact rfl; exact rfl; exact rfl)
  refine HIS.out.mono ?_
  rintro e w1 ⟨rfl, hb1⟩
  have hM1 := HM0.out.call hb1
  clear HM0 HIS hm hb1
  cases hp : machP m with
  | false =>
    have HD : Hid (torI m r = (false, 1)) := by show _ = _; rw [torI, hp]
    have hb := hM1.below
    clear hM1 hp
    go_wp2_with fail
    go_ret2
    rw [HD.out]
    exact ⟨rfl, hb⟩
  | true =>
    have hok := mach_ok hp
    have hs16 := hok.s_le
    have cs := (hM1.mach 0 rfl).s
    rw [hok.S_eq] at cs
    have HD : Hid (torI m r = match decide (m.s ≤ 5) && inR r 0 3 with
      | false => (false, 2)
      | true => match torK m (r.toNat + 1) with
        | some c => (false, (c : Int))
        | none => (true, 0)) := by show _ = _; rw [torI, hp]; try rfl
    have HOK := Lib.hid hok
    clear hp hok
    have HRW := Lib.hid (l01In_any r 0 3)
    by_cases h5 : m.s ≤ 5
    · have j1 : ¬ ((5 : Int) < (m.s : Int)) := by omega
      have j2 : (m.s : Int) ≤ 5 := by omega
      cases hr : inR r 0 3 with
      | false =>
        have HD2 : Hid (torI m r = (false, 2)) := by show _ = _; rw [HD.out, hr, Bool.and_false]
        have hb := hM1.below
        rw [hr] at HRW
        clear hr hM1
        go_wp2_with (go_at_call 54; refine (HRW.out _).mono ?_; rintro e w' ⟨rfl, rfl⟩)
        go_ret2
        rw [HD2.out]
        exact ⟨rfl, hb⟩
      | true =>
        rw [hr] at HRW
        obtain ⟨n, rfl⟩ : ∃ n : Nat, r = (n : Int) := ⟨r.toNat, by simp only [inR, Bool.and_eq_true, decide_eq_true_eq] at hr; omega⟩
        have hn : n ≤ 3 := by simp only [inR, Bool.and_eq_true, decide_eq_true_eq] at hr; omega
        have HD2 : Hid (torI m (n : Int) = match torK m (n + 1) with
          | some c => (false, (c : Int))
          | none => (true, 0)) := by show _ = _; rw [HD.out, hr, decide_eq_true h5, Int.toNat_natCast]; rfl
        have HM1 := Lib.hid hM1
        have HCS := Lib.hid cs
        have HW0 := Lib.hid (ownII_empty w1)
        have HB0 : Hid (Below w1.heap.size w1 ((w1.alloc (.cells #[] 2)).alloc (.cells #[.slice (some ⟨w1.heap.size, 0, none⟩) 0 0] 26))) := ((Below.refl _ _).alloc (Nat.le_refl _) _).alloc (by simp) _
        clear hr HD hM1
        go_wp2_with (go_at_call 54; refine (HRW.out _).mono ?_; rintro e w' ⟨rfl, rfl⟩)
        clear HRW cs
        obtain ⟨i0, hi0, hz0, hz1, hz2⟩ := info_parts Try.info2
        obtain ⟨j0, hj0, hy0, hy1, hy2⟩ := info_parts Try.info26
        go_loopw [6, 7] (fun o kv wr => ∃ k : Nat, k ≤ n + 1 ∧ kv = .int .i64 (k : Int) ∧ Hid (torK m k = none) ∧ Hid (Below w1.heap.size w1 wr) ∧ Hid (OwnII wr w1.heap.size o (gwsN m.s k))) (fun _ k _ => n + 1 - (intOf k).toNat)
        case atStart => exact ⟨0, Nat.zero_le _, rfl, rfl, HB0.out, HW0.out⟩
        case round =>
          clear HB0 HW0
          obtain ⟨k, hk, rfl, HK0, HB, HO⟩ := hrel
          obtain ⟨wo, rfl⟩ : ∃ wo, wo = wr := ⟨_, rfl⟩
          by_cases hlt : k < n + 1
          · have j3 : (k : Int) ≤ (n : Int) := by omega
            have ek : IntKind.i64.wrap ((k : Int) + 1) = (k : Int) + 1 := IntWalk.i64_in _ (by omega)
            have HQW : Hid (∀ g ∈ gwsN m.s k, GW m g ∧ g.length ≤ 40) := fun g hg => ⟨gws_gw hg, by have := (gwsN_word m.s k g hg).1; omega⟩
            have HTK : Hid (torK m (k + 1) = (gwsN m.s k).findSome? (torW m)) := by show _ = _; rw [torK, HK0.out]
            have hQl := gwsN_small m.s h5 (show k ≤ 4 by omega)
            have HGN : Hid (gwsN m.s (k + 1) = nxtW m.s (gwsN m.s k) (gwsN m.s k).length) := rfl
            obtain ⟨gq, cq, rfl⟩ : ∃ gq cq, u6 = .slice (some ⟨gq, 0, none⟩) (gwsN m.s k).length cq := by
              have h0 : 0 < (gwsN m.s k).length := gwsN_pos m.s HOK.out.s_pos k
              obtain ⟨g, c, x, e, -, -⟩ := HO.out.cell h0
              exact ⟨g, c, e⟩
            generalize gwsN m.s k = Q at *
            go_wp2_with fail
            go_loopw [8] (fun iv wr => ∃ i : Nat, i ≤ Q.length ∧ iv = .int .i64 (i : Int) ∧ Hid ((Q.take i).findSome? (torW m) = none) ∧ Hid (Below wo.heap.size wo wr)) (fun i _ => Q.length - (intOf i).toNat)
            case atStart => exact ⟨0, Nat.zero_le _, rfl, rfl, Below.refl _ _⟩
            case round =>
              obtain ⟨i, hi, rfl, HF, HBi⟩ := hrel
              by_cases hli : i < Q.length
              · obtain ⟨gq', cq', x, eo, cr, hOr⟩ := HO.out.cell hli
                injection eo with eo1 eo2 eo3
                injection eo1 with eo1
                injection eo1 with eo1
                subst eo1 eo3
                obtain ⟨ar, cr', rfl, hIr⟩ := hOr.form
                have cr := (HBi.out.cell (World.block_lt_of_cell? _ _ cr)).trans cr
                have i1 : (0 : Int) ≤ (i : Int) := by omega
                have i2 : (i : Int) < (Q.length : Int) := by omega
                have hBB := HB.out.trans (HBi.out.mono HB.out.size)
                have hq : Q[i]?.getD [] ∈ Q := by rw [List.getElem?_eq_getElem hli, Option.getD_some]; exact List.getElem_mem hli
                have HGWq := Lib.hid (HQW.out _ hq)
                have HIr := Lib.hid (hIr.keep HBi.out)
                have HN := Lib.hid (fun h1 h2 => fs_none hli HF.out (torW_none (m := m) (g := Q[i]?.getD []) h1 h2))
                have HS := Lib.hid (fun h => fs_some hli HF.out (torW_some (m := m) (g := Q[i]?.getD []) h))
                generalize Q[i]?.getD [] = g at *
                have hmr : MAt wr w.heap.size 0 m := (HM1.out.call hBB).mach 0 rfl
                obtain ⟨Wd, hWd⟩ : ∃ W, W = wr.drew := ⟨_, rfl⟩
                have hbd : Below wr.heap.size wr Wd := by rw [hWd]; exact dN_below wr 1
                have HSK : Hid (∀ W, Below Wd.heap.size Wd W → MAt W w.heap.size 0 m ∧ W.cell? ⟨gq, i, none⟩ = some (.slice ar g.length cr')) := fun W hW => by
                  have h1 := hbd.trans (hW.mono hbd.size)
                  exact ⟨hmr.keep h1 hwf, (h1.cell (World.block_lt_of_cell? _ _ cr)).trans cr⟩
                have HSE : Hid (∀ W, Below Wd.heap.size Wd W → _) := fun W hW => l06Search_any m hwf HOK.out ar g cr' HGWq.out.1 HGWq.out.2 W (HIr.out.keep (hbd.trans (hW.mono hbd.size)))
                have HBd := Lib.hid (HBi.out.trans (hbd.mono HBi.out.size))
                clear hOr hIr hq hmr hBB cr
                go_wp2_with fail
                refine region_S (fun W => MAt W w.heap.size 0 m ∧ W.cell? ⟨gq, i, none⟩ = some (.slice ar g.length cr')) [] 14 rfl HMX.out (by rw [← hWd]; exact HSK.out Wd (Below.refl _ _)) (fun hU => ?_)
                rw [← hWd] at hU ⊢
                clear hWd hbd
                have hM := Mm.start Wd
                (refine AnyS.takeS (i := 0) rfl (by kernel_rfl) (by kernel_rfl) (by kernel_rfl) (by rfl) (by kernel_rfl) (by kernel_rfl) (fun _ _ _ h => h) (by rfl) (fun W hW => run_ld Try.underlying29 rfl HIM.out (.tmp 2) rfl rfl hW.1) hU (fun hU => ?_); (try simp only [Act.put, List.setIfInBounds_toArray, List.set_cons_zero, List.set_cons_succ]))
                (refine AnyS.take (i := 1) rfl (by kernel_rfl) (by kernel_rfl) (by kernel_rfl) (by rfl) (fun _ _ _ h => h) (by rfl) (by intro w; go_simp; with_reducible rfl) hU (fun hU => ?_); (try simp only [Act.put, List.setIfInBounds_toArray, List.set_cons_zero, List.set_cons_succ]); refine AnyS.take (i := 2) rfl (by kernel_rfl) (by kernel_rfl) (by kernel_rfl) (by rfl) (fun _ _ _ h => h) (by rfl) (by intro w; go_simp; with_reducible rfl) hU (fun hU => ?_); (try simp only [Act.put, List.setIfInBounds_toArray, List.set_cons_zero, List.set_cons_succ]); refine AnyS.take (i := 3) rfl (by kernel_rfl) (by kernel_rfl) (by kernel_rfl) (by rfl) (fun _ _ _ h => h) (by rfl) (by intro w; go_simp; with_reducible rfl) hU (fun hU => ?_); (try simp only [Act.put, List.setIfInBounds_toArray, List.set_cons_zero, List.set_cons_succ]))
                (refine AnyS.takeS (i := 4) rfl (by kernel_rfl) (by kernel_rfl) (by kernel_rfl) (by rfl) (by kernel_rfl) (by kernel_rfl) (fun _ _ _ h => h) (by rfl) (by intro W hSw; have h1 := hSw.2; clear hSw; go_simp; with_reducible rfl) hU (fun hU => ?_); (try simp only [Act.put, List.setIfInBounds_toArray, List.set_cons_zero, List.set_cons_succ]))
                refine AnyS.branch (rs := [5, 10]) (by kernel_rfl) (by simp) (AllS.cons rfl (fun K hK => ?_) (AllS.cons rfl (fun K hK => ?_) AllS.nil))
                · skip
                  go_simp
                  refine (HSE.out Wd hM.below).mono ?_
                  rintro e W5 ⟨rfl, hb5⟩
                  have hM := hM.call hb5
                  refine hK.out _ _ (.inl (HSK.out _ hM.below)) (fun hU => ?_)
                  clear hK K hb5
                  (try simp only [Act.put, List.setIfInBounds_toArray, List.set_cons_zero, List.set_cons_succ])
                  (refine AnyS.take (i := 6) rfl (by kernel_rfl) (by kernel_rfl) (by kernel_rfl) (by rfl) (fun _ _ _ h => h) (by rfl) (by intro w; go_simp; with_reducible rfl) hU (fun hU => ?_); (try simp only [Act.put, List.setIfInBounds_toArray, List.set_cons_zero, List.set_cons_succ]); refine AnyS.take (i := 7) rfl (by kernel_rfl) (by kernel_rfl) (by kernel_rfl) (by rfl) (fun _ _ _ h => h) (by rfl) (by intro w; go_simp; with_reducible rfl) hU (fun hU => ?_); (try simp only [Act.put, List.setIfInBounds_toArray, List.set_cons_zero, List.set_cons_succ]); refine AnyS.take (i := 8) rfl (by kernel_rfl) (by kernel_rfl) (by kernel_rfl) (by rfl) (fun _ _ _ h => h) (by rfl) (by intro w; go_simp; with_reducible rfl) hU (fun hU => ?_); (try simp only [Act.put, List.setIfInBounds_toArray, List.set_cons_zero, List.set_cons_succ]); refine AnyS.take (i := 9) rfl (by kernel_rfl) (by kernel_rfl) (by kernel_rfl) (by rfl) (fun _ _ _ h => h) (by rfl) (by intro w; go_simp; with_reducible rfl) hU (fun hU => ?_); (try simp only [Act.put, List.setIfInBounds_toArray, List.set_cons_zero, List.set_cons_succ]))
                  refine AnyS.branch (rs := [10]) (by kernel_rfl) (by simp) (AllS.cons rfl (fun K hK => ?_) AllS.nil)

                  have hM2 := hM.alloc #[.string ⟨#[]⟩, .int .i64 0] 53
                  go_simp
                  refine hK.out _ _ (.inl (HSK.out _ hM2.below)) (fun hU => ?_)
                  clear hK K hM
                  (try simp only [Act.put, List.setIfInBounds_toArray, List.set_cons_zero, List.set_cons_succ])
                  generalize W5.alloc (.cells #[.string ⟨#[]⟩, .int .i64 0] 53) = WX at *
                  generalize W5.heap.size = b10 at *
                  have hM := hM2
                  clear hM2

                  generalize resN (ordW m g) = rn at *
                  generalize resC (ordW m g) = rc at *
                  generalize resS (ordW m g) = rs at *
                  generalize resF (ordW m g) = rf at *
                  (refine AnyS.take (i := 11) rfl (by kernel_rfl) (by kernel_rfl) (by kernel_rfl) (by rfl) (fun _ _ _ h => h) (by rfl) (by intro w; go_simp; with_reducible rfl) hU (fun hU => ?_); (try simp only [Act.put, List.setIfInBounds_toArray, List.set_cons_zero, List.set_cons_succ]))
                  have ht := (hM.at 0 rfl).there 0 2 (by simp)
                  have hM2 := hM.setAll 0 rfl (vs := [.string rs, .int .i64 (rf : Int)]) rfl
                  have HM2 := Lib.hid hM2
                  clear hM hM2
                  (refine AnyS.branch (rs := [12]) (by kernel_rfl) (List.cons_ne_nil _ _) ?_; refine AllS.cons rfl ?_ AllS.nil; intro K hK)
                  refine ite_of (by kernel_rfl) ?_
                  refine wp_st 53 (.tmp 10) (.tmp 49) rfl b10 0 [.string rs, .int .i64 (rf : Int)] rfl rfl ht infoPr (by simp [Value.oneCell']) ?_
                  refine hK.out _ _ (.inl (HSK.out _ HM2.out.below)) (fun hU => ?_)
                  clear hK K ht
                  (try simp only [Act.put, List.setIfInBounds_toArray, List.set_cons_zero, List.set_cons_succ])
                  (refine AnyS.take (i := 13) rfl (by kernel_rfl) (by kernel_rfl) (by kernel_rfl) (by rfl) (fun _ _ _ h => h) (by rfl) (by intro w; go_simp; with_reducible rfl) hU (fun hU => ?_); (try simp only [Act.put, List.setIfInBounds_toArray, List.set_cons_zero, List.set_cons_succ]))
                  refine AnyS.done (by kernel_rfl) ?_ _
                  clear hU
                  generalize WX.setCells b10 0 [.string rs, .int .i64 (rf : Int)] = WY at *
                  have HB5 := Lib.hid (HBd.out.trans (HM2.out.below.mono HBd.out.size))
                  have HBW := Lib.hid (HM1.out.below.trans ((HB.out.trans (HB5.out.mono HB.out.size)).mono HM1.out.size))
                  clear HSE HSK HM2 HBd
                  by_cases hc : rc = 0 ∧ rn ≠ 0
                  · have HF2 := Lib.hid (HN.out hc.1 hc.2)
                    obtain ⟨rfl, hc2⟩ := hc
                    have j4 : ((rn : Int) == 0) = false := by simp; omega
                    have ei : IntKind.i64.wrap ((i : Int) + 1) = (i : Int) + 1 := IntWalk.i64_in _ (by omega)
                    clear HN HS
                    go_wp2_with fail
                    go_roundw
                    case rel => exact ⟨i + 1, by omega, by go_num, HF2.out, HB5.out⟩
                    case measure => simp [intOf] <;> omega
                  · have HF2 : Hid (torI m (n : Int) = (false, (rc : Int))) := by show _ = _; rw [HD2.out, torK_some (HTK.out.trans (HS.out hc)) (n + 1) (by omega)]
                    clear HN HS
                    by_cases hc0 : rc = 0
                    · have hr0 : rn = 0 := by
                        by_cases h : rn = 0
                        · exact h
                        · exact absurd ⟨hc0, h⟩ hc
                      subst hc0 hr0
                      clear hc
                      go_wp2_with fail
                      go_ret2
                      rw [HF2.out]
                      exact ⟨rfl, HBW.out⟩
                    · have j4 : ((rc : Int) != 0) = true := by simp; omega
                      clear hc
                      go_wp2_with fail
                      go_ret2
                      rw [HF2.out]
                      exact ⟨rfl, HBW.out⟩
                · skip
                  have hM2 := hM.alloc #[.string ⟨#[]⟩, .int .i64 0] 53
                  go_simp
                  refine hK.out _ _ (.inl (HSK.out _ hM2.below)) (fun hU => ?_)
                  clear hK K hM
                  (try simp only [Act.put, List.setIfInBounds_toArray, List.set_cons_zero, List.set_cons_succ])
                  generalize Wd.alloc (.cells #[.string ⟨#[]⟩, .int .i64 0] 53) = W5 at *
                  have hM := hM2
                  clear hM2
                  refine AnyS.branch (rs := [5]) (by kernel_rfl) (by simp) (AllS.cons rfl (fun K hK => ?_) AllS.nil)

                  go_simp
                  refine (HSE.out W5 hM.below).mono ?_
                  rintro e WX ⟨rfl, hb5⟩
                  have hM := hM.call hb5
                  refine hK.out _ _ (.inl (HSK.out _ hM.below)) (fun hU => ?_)
                  clear hK K hb5
                  (try simp only [Act.put, List.setIfInBounds_toArray, List.set_cons_zero, List.set_cons_succ])
                  (refine AnyS.take (i := 6) rfl (by kernel_rfl) (by kernel_rfl) (by kernel_rfl) (by rfl) (fun _ _ _ h => h) (by rfl) (by intro w; go_simp; with_reducible rfl) hU (fun hU => ?_); (try simp only [Act.put, List.setIfInBounds_toArray, List.set_cons_zero, List.set_cons_succ]); refine AnyS.take (i := 7) rfl (by kernel_rfl) (by kernel_rfl) (by kernel_rfl) (by rfl) (fun _ _ _ h => h) (by rfl) (by intro w; go_simp; with_reducible rfl) hU (fun hU => ?_); (try simp only [Act.put, List.setIfInBounds_toArray, List.set_cons_zero, List.set_cons_succ]); refine AnyS.take (i := 8) rfl (by kernel_rfl) (by kernel_rfl) (by kernel_rfl) (by rfl) (fun _ _ _ h => h) (by rfl) (by intro w; go_simp; with_reducible rfl) hU (fun hU => ?_); (try simp only [Act.put, List.setIfInBounds_toArray, List.set_cons_zero, List.set_cons_succ]); refine AnyS.take (i := 9) rfl (by kernel_rfl) (by kernel_rfl) (by kernel_rfl) (by rfl) (fun _ _ _ h => h) (by rfl) (by intro w; go_simp; with_reducible rfl) hU (fun hU => ?_); (try simp only [Act.put, List.setIfInBounds_toArray, List.set_cons_zero, List.set_cons_succ]))

                  generalize resN (ordW m g) = rn at *
                  generalize resC (ordW m g) = rc at *
                  generalize resS (ordW m g) = rs at *
                  generalize resF (ordW m g) = rf at *
                  (refine AnyS.take (i := 11) rfl (by kernel_rfl) (by kernel_rfl) (by kernel_rfl) (by rfl) (fun _ _ _ h => h) (by rfl) (by intro w; go_simp; with_reducible rfl) hU (fun hU => ?_); (try simp only [Act.put, List.setIfInBounds_toArray, List.set_cons_zero, List.set_cons_succ]))
                  have ht := (hM.at 0 rfl).there 0 2 (by simp)
                  have hM2 := hM.setAll 0 rfl (vs := [.string rs, .int .i64 (rf : Int)]) rfl
                  have HM2 := Lib.hid hM2
                  clear hM hM2
                  (refine AnyS.branch (rs := [12]) (by kernel_rfl) (List.cons_ne_nil _ _) ?_; refine AllS.cons rfl ?_ AllS.nil; intro K hK)
                  refine ite_of (by kernel_rfl) ?_
                  refine wp_st 53 (.tmp 10) (.tmp 49) rfl Wd.heap.size 0 [.string rs, .int .i64 (rf : Int)] rfl rfl ht infoPr (by simp [Value.oneCell']) ?_
                  refine hK.out _ _ (.inl (HSK.out _ HM2.out.below)) (fun hU => ?_)
                  clear hK K ht
                  (try simp only [Act.put, List.setIfInBounds_toArray, List.set_cons_zero, List.set_cons_succ])
                  (refine AnyS.take (i := 13) rfl (by kernel_rfl) (by kernel_rfl) (by kernel_rfl) (by rfl) (fun _ _ _ h => h) (by rfl) (by intro w; go_simp; with_reducible rfl) hU (fun hU => ?_); (try simp only [Act.put, List.setIfInBounds_toArray, List.set_cons_zero, List.set_cons_succ]))
                  refine AnyS.done (by kernel_rfl) ?_ _
                  clear hU
                  generalize WX.setCells Wd.heap.size 0 [.string rs, .int .i64 (rf : Int)] = WY at *
                  have HB5 := Lib.hid (HBd.out.trans (HM2.out.below.mono HBd.out.size))
                  have HBW := Lib.hid (HM1.out.below.trans ((HB.out.trans (HB5.out.mono HB.out.size)).mono HM1.out.size))
                  clear HSE HSK HM2 HBd
                  by_cases hc : rc = 0 ∧ rn ≠ 0
                  · have HF2 := Lib.hid (HN.out hc.1 hc.2)
                    obtain ⟨rfl, hc2⟩ := hc
                    have j4 : ((rn : Int) == 0) = false := by simp; omega
                    have ei : IntKind.i64.wrap ((i : Int) + 1) = (i : Int) + 1 := IntWalk.i64_in _ (by omega)
                    clear HN HS
                    go_wp2_with fail
                    go_roundw
                    case rel => exact ⟨i + 1, by omega, by go_num, HF2.out, HB5.out⟩
                    case measure => simp [intOf] <;> omega
                  · have HF2 : Hid (torI m (n : Int) = (false, (rc : Int))) := by show _ = _; rw [HD2.out, torK_some (HTK.out.trans (HS.out hc)) (n + 1) (by omega)]
                    clear HN HS
                    by_cases hc0 : rc = 0
                    · have hr0 : rn = 0 := by
                        by_cases h : rn = 0
                        · exact h
                        · exact absurd ⟨hc0, h⟩ hc
                      subst hc0 hr0
                      clear hc
                      go_wp2_with fail
                      go_ret2
                      rw [HF2.out]
                      exact ⟨rfl, HBW.out⟩
                    · have j4 : ((rc : Int) != 0) = true := by simp; omega
                      clear hc
                      go_wp2_with fail
                      go_ret2
                      rw [HF2.out]
                      exact ⟨rfl, HBW.out⟩
              · have hi' : i = Q.length := by omega
                subst hi'
                rw [List.take_length] at HF
                have HT2 : Hid (torK m (k + 1) = none) := HTK.out.trans HF.out
                have j4 : ¬ ((Q.length : Int) < (Q.length : Int)) := by omega
                obtain ⟨wt, rfl⟩ : ∃ wt, wt = wr := ⟨_, rfl⟩
                have HBt := Lib.hid (HB.out.trans (HBi.out.mono HB.out.size))
                have HOt := Lib.hid (HO.out.below HBi.out)
                have HCSt : Hid (∀ W, Below wt.heap.size wt W → W.cell? ⟨w.heap.size, 1, none⟩ = some (.int .i64 (m.s : Int))) := fun W hW => by
                  have h1 := HBt.out.trans (hW.mono HBt.out.size)
                  exact (h1.cell (World.block_lt_of_cell? _ _ HCS.out)).trans HCS.out
                have hM2 := (Mm.start wt).newOwn #[] 26 0 rfl (by omega)
                clear HBi HO HF
                go_wp2_with fail
                go_loopw [12, 13] (fun nv iv wm => ∃ (i : Nat) (rv : List Value), i ≤ Q.length ∧ iv = .int .i64 (i : Int) ∧ Hid (rv.length = (nxtW m.s Q i).length) ∧ Mm wt.heap.size wt wm [] ((nv, 26, rv) :: rowG rv (nxtW m.s Q i))) (fun _ i _ => Q.length - (intOf i).toNat)
                case atStart => exact ⟨0, [], Nat.zero_le _, rfl, rfl, hM2⟩
                case round =>
                  clear hM2
                  obtain ⟨i, rv, hi', rfl, HL, hM⟩ := hrel
                  obtain ⟨wm, rfl⟩ : ∃ wm, wm = wr := ⟨_, rfl⟩
                  by_cases hli : i < Q.length
                  · obtain ⟨gq', cq', x, eo, cr, hOr⟩ := HOt.out.cell hli
                    injection eo with eo1 eo2 eo3
                    injection eo1 with eo1
                    injection eo1 with eo1
                    subst eo1 eo3
                    obtain ⟨ar, cr', rfl, -⟩ := hOr.form
                    have HOr := Lib.hid hOr
                    have HCR := Lib.hid cr
                    have i1 : (0 : Int) ≤ (i : Int) := by omega
                    have i2 : (i : Int) < (Q.length : Int) := by omega
                    have ei : IntKind.i64.wrap ((i : Int) + 1) = (i : Int) + 1 := IntWalk.i64_in _ (by omega)
                    have en : IntKind.i64.wrap (-(m.s : Int)) = -(m.s : Int) := IntWalk.i64_in _ (by omega)
                    have HSU := Lib.hid (nxtW_succ m.s Q hli)
                    have hnl := nxtW_len m.s h5 Q i (by omega)
                    have hgl : (Q[i]?.getD []).length ≤ 40 := by
                      rw [List.getElem?_eq_getElem hli, Option.getD_some]
                      exact (HQW.out _ (List.getElem_mem hli)).2
                    generalize Q[i]?.getD [] = g at *
                    generalize nxtW m.s Q i = R at *
                    clear hOr cr
                    have cs := HCSt.out wm hM.below
                    go_wp2_with fail
                    clear cs
                    go_loopw [12, 14] (fun nv qv wi => ∃ (t : Nat) (rv : List Value), t ≤ 2 * m.s + 1 ∧ qv = .int .i64 ((t : Int) - (m.s : Int)) ∧ Hid (rv.length = (R ++ extW m.s t g).length) ∧ Mm wt.heap.size wt wi [] ((nv, 26, rv) :: rowG rv (R ++ extW m.s t g))) (fun _ q _ => 2 * m.s + 1 - (intOf q + m.s).toNat)
                    case atStart => exact ⟨0, rv, Nat.zero_le _, by simp, by rw [extW_zero, List.append_nil]; exact HL.out, by rw [extW_zero, List.append_nil]; exact hM⟩
                    case round =>
                      clear hM HL
                      obtain ⟨t, rv, ht, rfl, HL, hM⟩ := hrel
                      have HES := Lib.hid (extW_succ m.s t g)
                      have het := extW_len m.s t g
                      have et : IntKind.i64.wrap ((t : Int) - (m.s : Int) + 1) = (t : Int) - (m.s : Int) + 1 := IntWalk.i64_in _ (by omega)
                      have hrl : rv.length ≤ 1000000 := by rw [HL.out, List.length_append]; omega
                      have cs := HCSt.out wr hM.below
                      by_cases hlt2 : t < 2 * m.s + 1
                      · have q1 : ((t : Int) - (m.s : Int)) ≤ (m.s : Int) := by omega
                        by_cases h0 : (t : Int) - (m.s : Int) = 0
                        · rw [if_pos h0, List.append_nil] at HES
                          have q2 : (((t : Int) - (m.s : Int)) != 0) = false := by simp [h0]
                          go_wp2_with fail
                          go_roundw
                          case rel => exact ⟨t + 1, rv, by omega, by congr 1; omega, by rw [HES.out]; exact HL.out, by rw [HES.out]; exact hM⟩
                          case measure => simp [intOf] <;> omega
                        · rw [if_neg h0] at HES
                          have q2 : (((t : Int) - (m.s : Int)) != 0) = true := by simpa using h0
                          have hIO := (hM.below.cell (World.block_lt_of_cell? _ _ HCR.out)).trans HCR.out
                          have HCL := Lib.hid (l01Own_any (.slice ar g.length cr') g (by omega) w1.heap.size wr (HOr.out.below hM.below))
                          generalize hqe : (t : Int) - (m.s : Int) = q at *
                          go_wp2_with fail
                          refine HCL.out.mono ?_
                          rintro e w5 ⟨v5, rfl, hb5, hO5⟩
                          have hM5 := hM.callOwn hb5 hO5 (by simp [i64s])
                          clear hM HCL hO5 hb5 hIO cs
                          go_wp2_with (at_builtin; refine Mm.append rfl (.tmp 81) (.tmp 83) 26 rfl hM5 0 rfl Try.underlying26 hi0 hz0 hz1 hz2 rfl rfl rfl rfl (by simp [i64s]; omega) (by omega) ?_)
                          intro g6 c6 w6 hM6
                          (try simp only [List.set_cons_zero] at hM6)
                          clear hM5
                          go_wp2_with (at_builtin; refine Mm.append rfl (.tmp 76) (.tmp 85) 35 rfl hM6 1 rfl Try.underlying35 hj0 hy0 hy1 hy2 rfl rfl rfl rfl (by omega) (by omega) ?_)
                          intro g7 c7 w7 hM7
                          (try simp only [List.set_cons_zero, List.set_cons_succ] at hM7)
                          have HM7 : Hid (Mm wt.heap.size wt w7 [] ((.slice (some ⟨g7, 0, none⟩) (rv.length + 1) c7, 26, rv ++ [.slice (some ⟨g6, 0, none⟩) ((i64s g).length + 1) c6]) :: rowG (rv ++ [.slice (some ⟨g6, 0, none⟩) ((i64s g).length + 1) c6]) (R ++ extW m.s (t + 1) g))) := by
                            rw [HES.out, ← List.append_assoc]
                            refine Mm.rowPut (xs := g ++ [q]) ?_ HL.out
                            simpa [i64s] using hM7
                          have HL7 : Hid ((rv ++ [Value.slice (some ⟨g6, 0, none⟩) ((i64s g).length + 1) c6]).length = (R ++ extW m.s (t + 1) g).length) := by
                            show _ = _
                            rw [HES.out, ← List.append_assoc, List.length_append, List.length_append, HL.out]; rfl
                          clear hM6 hM7
                          go_wp2_with fail
                          go_roundw
                          case rel => exact ⟨t + 1, _, by omega, by rw [show ((t + 1 : Nat) : Int) - (m.s : Int) = q + 1 by omega], HL7.out, HM7.out⟩
                          case measure => simp [intOf] <;> omega
                      · have ht' : t = 2 * m.s + 1 := by omega
                        subst ht'
                        have q1 : ¬ ((((2 * m.s + 1 : Nat) : Int) - (m.s : Int)) ≤ (m.s : Int)) := by omega
                        rw [← HSU.out] at HL hM
                        have HM := Lib.hid hM
                        clear hM HES
                        go_wp2_with fail
                        go_roundw
                        case rel => exact ⟨i + 1, rv, by omega, by go_num, HL.out, HM.out⟩
                        case measure => simp [intOf] <;> omega
                  · have hi2 : i = Q.length := by omega
                    subst hi2
                    rw [← HGN.out] at HL hM
                    have j5 : ¬ ((Q.length : Int) < (Q.length : Int)) := by omega
                    have HO2 := Lib.hid ((OwnII.of hM HL.out).less HBt.out.size)
                    have HB2 := Lib.hid (HBt.out.trans (hM.below.mono HBt.out.size))
                    clear hM
                    go_wp2_with fail
                    go_roundw
                    case rel => exact ⟨k + 1, by omega, by go_num, HT2.out, HB2.out, HO2.out⟩
                    case measure => simp [intOf] <;> omega
          · have hk' : k = n + 1 := by omega
            subst hk'
            have HF2 : Hid (torI m (n : Int) = (true, 0)) := by show _ = _; rw [HD2.out, HK0.out]
            have HBW := Lib.hid (HM1.out.below.trans (HB.out.mono HM1.out.size))
            have j4 : ¬ ((((n + 1 : Nat) : Int)) ≤ (n : Int)) := by omega
            go_wp2_with fail
            go_ret2
            rw [HF2.out]
            exact ⟨rfl, HBW.out⟩
    · have HD2 : Hid (torI m r = (false, 2)) := by show _ = _; rw [HD.out, decide_eq_false h5]; rfl
      have j1 : (5 : Int) < (m.s : Int) := by omega
      have hb := hM1.below
      clear hM1
      go_wp2_with (go_at_call 54; refine (HRW.out _).mono ?_; rintro e w' ⟨rfl, rfl⟩)
      go_ret2
      rw [HD2.out]
      exact ⟨rfl, hb⟩
end Go.Proofs.Yteagecoiijhflaa

/- The program's TorsionUpTo answers as the reference's, for every machine and every number: the law FnExactTorsionUpTo. No conditions. -/
namespace Go.Proofs.Yteagecoiijhflaa
open Go.ChangeShapes Go.WideShapes Go.ChangeAt Go.RowKit Go.Joins
set_option linter.unusedVariables false
set_option linter.unusedSimpArgs false

set_option maxRecDepth 100000 in
set_option maxHeartbeats 4000000 in
theorem lawTorsionUpTo_core (m : Mch) (hwf : m.Wf) (r : Int) (w : World) :
    Calls Try.prog 8 #[.agg m.cells.toArray, .int .i64 r] w (Ret (.bool true) w) := by
  have hM0 := (Mm.start w).alloc m.cells.toArray 25
  have hi : (Try.prog.info? 25).map (·.size) = some m.cells.length := by rw [Mch.cells_length hwf]; kernel_rfl
  have HI := Lib.hid hi
  clear hi
  go_enter Try.func8, Try.ntmps8
  have hr1 : (w.alloc (.cells m.cells.toArray 25)).rangeAt w.heap.size 0 m.cells := hM0.mach 0 rfl
  go_wp2_with ((with_reducible refine ld_row ?_ 25 (.tmp 2) ?_ w.heap.size 0 ?_ m.cells (.struct _) hr1 Try.underlying25 ?_ HI.out ?_); exact rfl; exact rfl; exact rfl; exact rfl)
  refine (toMachine_any m hwf _).mono ?_
  rintro e w1 ⟨rfl, hb1⟩
  have hM1 := hM0.call hb1
  have HSP := Lib.hid (specTorsionUpTo_any m hwf r w1)
  clear hM0 hr1
  go_wp2_with fail
  refine HSP.out.mono ?_
  clear HSP
  obtain ⟨R, hR⟩ : ∃ R, R = torI m r := ⟨_, rfl⟩
  have HR := Lib.hid hR
  rw [← hR]
  clear hR
  obtain ⟨k, cd⟩ := R
  rintro e w3 ⟨rfl, hb3⟩
  have hM3 := hM1.call hb3
  have hr4 : w3.rangeAt w.heap.size 0 m.cells := hM3.mach 0 rfl
  clear hM1
  go_wp2_with ((with_reducible refine ld_row ?_ 25 (.tmp 2) ?_ w.heap.size 0 ?_ m.cells (.struct _) hr4 Try.underlying25 ?_ HI.out ?_); exact rfl; exact rfl; exact rfl; exact rfl)
  refine (toMachine_any m hwf _).mono ?_
  rintro e w5 ⟨rfl, hb5⟩
  have hM5 := hM3.call hb5
  have HIM := Lib.hid (implTorsionUpTo_any m hwf r w5)
  rw [← HR.out] at HIM
  clear hM3 hr4
  go_wp2_with fail
  refine HIM.out.mono ?_
  rintro e w6 ⟨rfl, hb6⟩
  have hbb := (hM5.call hb6).below
  clear hM5 HIM
  go_wp2_with fail
  go_ret
  exact ⟨rfl, hbb⟩

set_option maxRecDepth 100000 in
theorem lawTorsionUpTo_lifted (os : Os) (started : os.Started) (H : Type) (enc : TypeId × Value → H) :
    ReturnsInHanded {} Try.checked os 8 .any (Rows.fnExactTorsionUpToSpec.pre6 enc Try.prog Try.f8 Rows.fnExactTorsionUpToRow.domain false) (Rows.fnExactTorsionUpToSpec.post enc Try.prog Try.f8 false true false false) := by
  refine returnsInHanded_of_change (C := Try.checked) Try.own started (by kernel_rfl) Try.func8
    (ChangeSpec.witness6 (enc := enc) (C := Try.checked) false ⟨#[], #[.agg ((Value.int .i64 0 :: Value.int .i64 0 :: List.replicate 96 (Value.int .u8 0)).toArray), .int .i64 0], []⟩ 8 (by kernel_rfl) (by kernel_rfl) (by kernel_rfl) (by kernel_rfl)) ?_
  intro W base args ds gs before hval0 hW _ _
  have hval : ∀ (j : Nat) t v, Try.f8.params[j]? = some t → args[j]? = some v → Value.okWide Try.prog W .any base t v := hval0
  have hW' := hW
  obtain ⟨p, q, hA0, hV, rfl, _, _⟩ := hW
  have hA : DataW.TrodAll enc Try.prog W 0 (fun _ => true) true Try.f8.params.toList args.toList ds p := hA0
  rw [Try.params8] at hA hval
  obtain ⟨v0, v1, d0, d1, p0, p1, rfl, rfl, rfl, h0, h1⟩ := trodAll_two hA
  obtain ⟨rfl, rfl⟩ := trodVars_none hV
  obtain ⟨m, hwf, rfl⟩ := open_mach (hval 0 25 v0 rfl rfl) h0
  obtain ⟨r, rfl, rfl, rfl, wx1⟩ := open_int Try.underlying2 (hval 1 2 v1 rfl rfl) h1
  refine (lawTorsionUpTo_core m hwf r W).mono fun e W' ⟨he, hb⟩ => ⟨_, he, ?_⟩
  exact law_post Try.laidOut (by kernel_rfl) hW' rfl rfl rfl rfl hb rfl Try.underlying4

theorem torsionUpTo_closed : joinedFacts Try.checked.prog 8 Try.f8 Rows.fnExactTorsionUpToSpec Rows.fnExactTorsionUpToRow = true := by
  unfold joinedFacts
  rw [c_enter, c_lifts, c_make]
  kernel_rfl

theorem torsionUpTo_holds : Rows.FnExactTorsionUpToSaid :=
  OpenClaim.holds_of_wide 8 Try.f8 rfl rfl rfl rfl rfl rfl rfl ⟨rfl, rfl, rfl, rfl, rfl⟩ rfl rfl rfl rfl rfl (by kernel_rfl) Try.func8 torsionUpTo_closed
    (of_decide_eq_true (by kernel_rfl)) (by unfold Func.isWrapper; first | (rw [if_pos (by decide +kernel)]; kernel_rfl) | (rw [if_neg (by decide +kernel)]; exact ⟨rfl, rfl⟩))
    (fun os started H enc _ => lawTorsionUpTo_lifted os started H enc)
#print axioms torsionUpTo_holds
end Go.Proofs.Yteagecoiijhflaa
