import Derived.Test.YteagecoiijhflaaZLOrderOf14
/- The search for an order of the reference. -/
namespace Go.Proofs.Yteagecoiijhflaa
open Go.RowKit
set_option linter.unusedVariables false
set_option linter.unusedSimpArgs false

theorem infoPr : (Try.prog.info? 53).map (·.size) = some 2 := by kernel_rfl
theorem infoDn : (Try.prog.info? 124).map (·.size) = some 3 := by kernel_rfl

set_option maxRecDepth 100000 in
set_option maxHeartbeats 4000000 in
theorem l06Order_step (m : Mch) (hwf : m.Wf) (hok : m.Ok) (sub : Option (Pth → Wd → Ores)) (P : Pth) (g : Wd) (u v c : Value) (w : World) (hP : POk P) (hq : ∀ p ∈ P, p.1.length ≤ 40) (hp : ∀ p ∈ P, p.2.1 < 3) (hlp : P.length ≤ 11) (hlim : sub = none ↔ P.length = 11) (hg : GW m g) (hl : g.length ≤ 40) (hA : PthAt w u v c P g)
    (hso : ∀ s, sub = some s → ∀ Q r, POk Q → Q.length = P.length + 1 → (s Q r).Ok)
    (hrec : ∀ s, sub = some s → ∀ Q r u v c W, Q.length = P.length + 1 → POk Q → (∀ p ∈ Q, p.1.length ≤ 40) → (∀ p ∈ Q, p.2.1 < 3) → GW m r → r.length ≤ 40 → PthAt W u v c Q r → Calls Try.prog 109 #[.agg (tcells m).toArray, .agg #[u, v, c]] W (RetO (s Q r) W)) :
    Calls Try.prog 109 #[.agg (tcells m).toArray, .agg #[u, v, c]] w (RetO (if g = [] then .ok 1 else (ordL m (ordC m sub P g) g m.l).fin) w) := by
  have h2 := hok.l_ge
  have h3 := hok.l_le
  have HA := Lib.hid hA
  have HGW := Lib.hid hg
  have HSO := Lib.hid hso
  have HOK : Hid (∀ i, i < m.l → (ordC m sub P g i).Ok) := fun i _ => ordC_ok hP hlp hso
  have HREC := Lib.hid hrec
  have HP := Lib.hid hP
  have HQ := Lib.hid hq
  have HPL := Lib.hid hp
  have HLIM := Lib.hid hlim
  have HGL := Lib.hid hl
  have hM0 := (((Mm.start w).alloc (tcells m).toArray 67).alloc #[u, v, c] 137).alloc #[.string ⟨#[]⟩, .int .i64 0] 53
  rw [show (w.alloc (.cells (tcells m).toArray 67)).heap.size = w.heap.size + 1 by simp, show ((w.alloc (.cells (tcells m).toArray 67)).alloc (.cells #[u, v, c] 137)).heap.size = w.heap.size + 1 + 1 by simp] at hM0
  obtain ⟨gu, cu, rfl⟩ : ∃ gu cu, u = .slice (some ⟨gu, 0, none⟩) (P.length + 1) cu := by
    obtain ⟨B2, rv, hl, ho, -, -⟩ := hA.ws
    have e : (P.map (·.1) ++ [g]).length = P.length + 1 := by simp
    rcases ho.2 with ⟨_, h0⟩ | ⟨gg, cap, cur, hv, -⟩
    · omega
    · rw [e] at hv; exact ⟨gg, cap, hv⟩
  obtain ⟨ag, cg, cgu, hIg⟩ : ∃ ag cg, w.cell? ⟨gu, P.length, none⟩ = some (.slice ag g.length cg) ∧ IntsAt w ag g := by
    obtain ⟨B2, rv, hl, ho, -, h⟩ := hA.ws
    obtain ⟨a, c, e, hI⟩ := h P.length (by simp)
    have e2 : (P.map (·.1) ++ [g])[P.length]?.getD [] = g := by rw [List.getElem?_append_right (by simp)]; simp
    rw [e2] at e hI
    refine ⟨a, c, ?_, hI⟩
    have := World.ownsRow.cells ho (g := gu) rfl _ _ e
    rwa [show (⟨gu, 0, none⟩ : Addr).add P.length = ⟨gu, P.length, none⟩ by unfold Addr.add; split <;> simp_all] at this
  have HI := Lib.hid hIg
  have c1 := (hM0.below.cell (World.block_lt_of_cell? w _ cgu)).trans cgu
  have c0 := (hM0.at 1 rfl).cell' (i := 0) rfl
  have e1 : IntKind.i64.wrap (((P.length + 1 : Nat) : Int) - 1) = (P.length : Int) := by rw [IntWalk.i64_in _ (by omega)]; omega
  have i1 : (0 : Int) ≤ (P.length : Int) := by omega
  have i2 : (P.length : Int) < ((P.length + 1 : Nat) : Int) := by omega
  have f0 := (hM0.at 0 rfl).free 0
  have f1 := (hM0.at 0 rfl).free 1
  clear hA hg hso hrec hP hq hp hlim hIg cgu
  go_enter Try.func109, Try.ntmps109
  by_cases hg0 : g = []
  · subst hg0
    have HM1 := Lib.hid hM0
    clear hM0
    go_wp2_with fail
    exact bodyPost_ret (v := .tuple #[.int .i64 1, .agg (prC ⟨#[]⟩ 0).toArray, .int .i64 0]) (results_mid Try.results109 _ _ (w.heap.size + 1 + 1) 53 (prC ⟨#[]⟩ 0).toArray (0, 0) (.struct _) rfl (HM1.out.at 0 rfl) Try.underlying53 rfl infoPr) rfl ⟨HM1.out.below, rfl⟩
  · rw [if_neg hg0]
    have hgl : ((g.length : Int) == 0) = false := by
      cases g with
      | nil => exact absurd rfl hg0
      | cons a l => simp; omega
    have hM3 := hM0.alloc #[.bool false, .bool false, .bool false] 124
    rw [show ((((w.alloc (.cells (tcells m).toArray 67)).alloc (.cells #[.slice (some ⟨gu, 0, none⟩) (P.length + 1) cu, v, c] 137)).alloc (.cells #[.string ⟨#[]⟩, .int .i64 0] 53)).heap.size) = w.heap.size + 1 + 1 + 1 by simp] at hM3
    have f0 := (hM3.at 0 rfl).free 0
    have f1 := (hM3.at 0 rfl).free 1
    have f2 := (hM3.at 0 rfl).free 2
    have HM3 : Hid (Mm w.heap.size w ((((w.alloc (.cells (tcells m).toArray 67)).alloc (.cells #[.slice (some ⟨gu, 0, none⟩) (P.length + 1) cu, v, c] 137)).alloc (.cells #[.string ⟨#[]⟩, .int .i64 0] 53)).alloc (.cells #[.bool false, .bool false, .bool false] 124)) [(w.heap.size + 1 + 1 + 1, dnB [], 124), (w.heap.size + 1 + 1, prC ⟨#[]⟩ 0, 53), (w.heap.size + 1, [.slice (some ⟨gu, 0, none⟩) (P.length + 1) cu, v, c], 137), (w.heap.size, tcells m, 67)] []) := hM3
    clear hM3 hM0
    go_wp2_with fail
    clear c0 c1 f0 f1 f2 e1
    have HMX := Lib.hid (show Try.prog.follows .mixedOrders = true by kernel_rfl)
    have HT := Lib.hid (infoT228 hwf hok)
    have HG0 := Lib.hid hg0
    clear hg0 hgl
    go_loopw [8, 10] (fun o x wr => ∃ (i n : Nat) (seen : List Nat), i ≤ m.l ∧ x = .int .u8 (i : Int) ∧ o = .int .i64 (n : Int) ∧ Hid (ordL m (ordC m sub P g) g i = .go n seen) ∧ Mm w.heap.size w wr [(w.heap.size + 1 + 1 + 1, dnB seen, 124), (w.heap.size + 1 + 1, prC ⟨#[]⟩ 0, 53), (w.heap.size + 1, [.slice (some ⟨gu, 0, none⟩) (P.length + 1) cu, v, c], 137), (w.heap.size, tcells m, 67)] []) (fun _ x _ => 3 - (intOf x).toNat)
    case atStart => exact ⟨0, 1, [], Nat.zero_le _, rfl, rfl, rfl, HM3.out⟩
    case round =>
      clear HM3
      obtain ⟨i, n, seen, hi, rfl, rfl, HL, hM⟩ := hrel
      obtain ⟨hm1, -, -, -⟩ := turn_at hwf hok (hM.at 3 rfl)
      have hrange := (hM.at 3 rfl).all
      simp only at hrange
      have c0 := hm1.l
      rw [hok.L_eq] at c0
      have e8 := IntWalk.u8_in (m.l : Int) ⟨by omega, by omega⟩
      clear hm1
      by_cases hlt : i < m.l
      · have c1 := (hM.at 0 rfl).cell' (dnB_get seen (show i < 3 by omega))
        have i3 : (i : Int) < 3 := by omega
        have i4 : (0 : Int) ≤ (i : Int) := by omega
        have i5 : (i : Int) < (m.l : Int) := by omega
        by_cases hs : i ∈ seen
        · have HL2 := Lib.hid (ordL_seen HL.out hs)
          rw [decide_eq_true hs] at c1
          clear HL hs
          have e9 := IntWalk.u8_in ((i : Int) + 1) ⟨by omega, by omega⟩
          go_wp2_with fail
          go_roundw
          case rel => exact ⟨i + 1, n, seen, by omega, by go_num, rfl, HL2.out, hM⟩
          case measure => simp [intOf] <;> omega
        · have HS := Lib.hid hs
          rw [decide_eq_false hs] at c1
          have HCY := Lib.hid (l06Cycle_any m hwf hok ag g cg HGW.out (by omega) i hlt wr (HI.out.keep hM.below))
          clear hs
          go_wp2_with ((with_reducible refine ld_row ?_ 67 (.tmp 2) ?_ w.heap.size 0 ?_ (tcells m) (.struct _) hrange Try.underlying67 ?_ HT.out ?_); exact rfl; exact rfl; exact rfl; exact rfl)
          refine HCY.out.mono ?_
          rintro e w1 ⟨v1, rfl, hb1, hO1⟩
          have hM1 := hM.callOwn hb1 hO1 (by rw [cycB_len])
          obtain ⟨gv, cv, rfl, -, -, -⟩ := own_form hO1 (by have := (cycN_le m g i).1; omega)
          have hn := cycN_le m g i
          clear HCY hrange hM hO1 hb1 c0 c1
          go_wp2_with fail
          go_loopw [12] (fun jv wr => ∃ j : Nat, j ≤ cycN m g i ∧ jv = .int .i64 j ∧ Mm w.heap.size w wr [(w.heap.size + 1 + 1 + 1, dnB (seen ++ cycL m g i j), 124), (w.heap.size + 1 + 1, prC ⟨#[]⟩ 0, 53), (w.heap.size + 1, [.slice (some ⟨gu, 0, none⟩) (P.length + 1) cu, v, c], 137), (w.heap.size, tcells m, 67)] [(.slice (some ⟨gv, 0, none⟩) (cycN m g i) cv, 5, cycB m g i (cycN m g i))]) (fun jv _ => cycN m g i - (intOf jv).toNat)
          case atStart => exact ⟨0, Nat.zero_le _, rfl, by simpa [cycL] using hM1⟩
          case round =>
            clear hM1
            obtain ⟨j, hj, rfl, hM⟩ := hrel
            by_cases hlj : j < cycN m g i
            · have hO := hM.own _ (List.mem_cons_self ..)
              simp only at hO
              have d1 := hO.cells (g := gv) rfl j _ (cycB_get m g i hlj)
              rw [show (⟨gv, 0, none⟩ : Addr).add j = ⟨gv, j, none⟩ by unfold Addr.add; split <;> simp_all] at d1
              have hy := itX_lt hok hwf HGW.out hlt j
              have d2 := (hM.at 0 rfl).free (itX m g i j)
              have hM2 := hM.setCell 0 rfl (itX m g i j) (.bool true)
              have hM3 : Hid (Mm w.heap.size w (wr.setCell ⟨w.heap.size + 1 + 1 + 1, itX m g i j, none⟩ (.bool true)) [(w.heap.size + 1 + 1 + 1, dnB (seen ++ cycL m g i (j + 1)), 124), (w.heap.size + 1 + 1, prC ⟨#[]⟩ 0, 53), (w.heap.size + 1, [.slice (some ⟨gu, 0, none⟩) (P.length + 1) cu, v, c], 137), (w.heap.size, tcells m, 67)] [(.slice (some ⟨gv, 0, none⟩) (cycN m g i) cv, 5, cycB m g i (cycN m g i))]) := by
                rw [cycL_snoc, ← List.append_assoc, ← dnB_set _ (show itX m g i j < 3 by omega)]
                exact hM2
              have d3 := (hM.at 0 rfl).cell' (dnB_get (seen ++ cycL m g i j) (show itX m g i j < 3 by omega))
              have j1 : (0 : Int) ≤ (j : Int) := by omega
              have j2 : (j : Int) < (cycN m g i : Int) := by omega
              have j3 : (itX m g i j : Int) < 3 := by omega
              have j4 : (0 : Int) ≤ (itX m g i j : Int) := by omega
              clear hM hM2 hO hy
              generalize itX m g i j = y at *
              go_wp2_with fail
              go_roundw
              case rel => exact ⟨j + 1, by omega, by go_num, hM3.out⟩
              case measure => simp [intOf] <;> omega
            · have hj' : j = cycN m g i := by omega
              subst hj'
              have hM := hM.subG (G' := []) (List.nil_sublist _)
              have hrange := (hM.at 3 rfl).all
              simp only at hrange
              have HRT := Lib.hid (l06Return_any m hwf hok ag g cg HGW.out HGL.out i hlt wr (HI.out.keep hM.below))
              go_wp2_with ((with_reducible refine ld_row ?_ 67 (.tmp 2) ?_ w.heap.size 0 ?_ (tcells m) (.struct _) hrange Try.underlying67 ?_ HT.out ?_); exact rfl; exact rfl; exact rfl; exact rfl)
              refine HRT.out.mono ?_
              intro e w3 hR
              clear HRT hrange
              cases hr : retR m g i with
              | none =>
                rw [hr] at hR
                obtain ⟨rfl, hb3⟩ := hR
                have hM3 := hM.call hb3
                have HF : Hid ((ordL m (ordC m sub P g) g m.l).fin = .lim) := ordL_fin hlt (ordL_ores HL.out HS.out (by unfold ordC; rw [hr]) (fun k h => by cases h))
                have f0 := (hM3.at 1 rfl).free 0
                have f1 := (hM3.at 1 rfl).free 1
                have g0 := (hM3.at 1 rfl).cell' (i := 0) rfl
                have g1 := (hM3.at 1 rfl).cell' (i := 1) rfl
                have HM5 := Lib.hid ((hM3.setCell 1 rfl 0 (.string ⟨#[]⟩)).setCell 1 rfl 1 (.int .i64 0))
                clear hM hb3 hM3 hr
                go_wp2_with fail
                rw [HF.out]
                exact bodyPost_ret (v := .tuple #[.int .i64 0, .agg (prC ⟨#[]⟩ 0).toArray, .int .i64 3]) (results_mid Try.results109 _ _ (w.heap.size + 1 + 1) 53 (prC ⟨#[]⟩ 0).toArray (0, 0) (.struct _) rfl (HM5.out.at 1 rfl) Try.underlying53 rfl infoPr) rfl ⟨HM5.out.below, rfl⟩
              | some p =>
                obtain ⟨r, k⟩ := p
                rw [hr] at hR
                obtain ⟨vr, rfl, hb3, hO3⟩ := hR
                have hg3 := retR_good hok hwf HGW.out hlt hr
                have HR := Lib.hid hr
                have hM3 := (hM.callOwn hb3 hO3 (by simp [i64s])).drew
                have HG3 := Lib.hid hg3
                clear hM hb3 hO3 hr hg3
                go_wp2_with fail
                obtain ⟨Lo, hLo⟩ : ∃ Lo, Lo = [(w.heap.size + 1 + 1 + 1, dnB (seen ++ cycL m g i (cycN m g i)), 124), (w.heap.size + 1 + 1, prC ⟨#[]⟩ 0, 53), (w.heap.size + 1, [.slice (some ⟨gu, 0, none⟩) (P.length + 1) cu, v, c], 137), (w.heap.size, tcells m, 67)] := ⟨_, rfl⟩
                have HLO := Lib.hid hLo
                rw [← hLo] at hM3
                have HPB : Hid (∀ W G (f5 f11 f14 : Bool) x5 x11 x14, Mm w.heap.size w W (ext f14 x14 (ext f5 x5 (ext f11 x11 Lo))) G → Blk W (w.heap.size + 1) [.slice (some ⟨gu, 0, none⟩) (P.length + 1) cu, v, c] 137) := fun W G f5 f11 f14 x5 x11 x14 h => (h.blk (w.heap.size + 1, [.slice (some ⟨gu, 0, none⟩) (P.length + 1) cu, v, c], 137) (ext_mem (ext_mem (ext_mem (by rw [HLO.out]; simp))))).2
                refine region_S (fun W => Blk W (w.heap.size + 1) [.slice (some ⟨gu, 0, none⟩) (P.length + 1) cu, v, c] 137) [] 16 rfl HMX.out (HPB.out _ _ false false false (0, [], 0) (0, [], 0) (0, [], 0) hM3) (fun hU => ?_)
                obtain ⟨W, hW⟩ : ∃ W, W = w3.drew := ⟨_, rfl⟩
                rw [← hW] at hU hM3 ⊢
                clear hW hLo
                (refine AnyS.take (i := 1) rfl (by kernel_rfl) (by kernel_rfl) (by kernel_rfl) (by rfl) (fun _ _ _ h => h) (by rfl) (by intro w; go_simp; with_reducible rfl) hU (fun hU => ?_); (try simp only [Act.put, List.setIfInBounds_toArray, List.set_cons_zero, List.set_cons_succ]); refine AnyS.take (i := 4) rfl (by kernel_rfl) (by kernel_rfl) (by kernel_rfl) (by rfl) (fun _ _ _ h => h) (by rfl) (by intro w; go_simp; with_reducible rfl) hU (fun hU => ?_); (try simp only [Act.put, List.setIfInBounds_toArray, List.set_cons_zero, List.set_cons_succ]); refine AnyS.take (i := 7) rfl (by kernel_rfl) (by kernel_rfl) (by kernel_rfl) (by rfl) (fun _ _ _ h => h) (by rfl) (by intro w; go_simp; with_reducible rfl) hU (fun hU => ?_); (try simp only [Act.put, List.setIfInBounds_toArray, List.set_cons_zero, List.set_cons_succ]); refine AnyS.take (i := 10) rfl (by kernel_rfl) (by kernel_rfl) (by kernel_rfl) (by rfl) (fun _ _ _ h => h) (by rfl) (by intro w; go_simp; with_reducible rfl) hU (fun hU => ?_); (try simp only [Act.put, List.setIfInBounds_toArray, List.set_cons_zero, List.set_cons_succ]))
                (refine AnyS.takeS (i := 2) rfl (by kernel_rfl) (by kernel_rfl) (by kernel_rfl) (by rfl) (by kernel_rfl) (by kernel_rfl) (fun _ _ _ h => h) (by rfl) (by intro W hSw; have h1 := hSw.cell' (i := 1) rfl; clear hSw; go_simp; with_reducible rfl) hU (fun hU => ?_); (try simp only [Act.put, List.setIfInBounds_toArray, List.set_cons_zero, List.set_cons_succ]))
                (refine AnyS.takeS (i := 8) rfl (by kernel_rfl) (by kernel_rfl) (by kernel_rfl) (by rfl) (by kernel_rfl) (by kernel_rfl) (fun _ _ _ h => h) (by rfl) (by intro W hSw; have h1 := hSw.cell' (i := 2) rfl; clear hSw; go_simp; with_reducible rfl) hU (fun hU => ?_); (try simp only [Act.put, List.setIfInBounds_toArray, List.set_cons_zero, List.set_cons_succ]))
                have HAL : Hid (∀ W, Below w.heap.size w W → (∃ B2, W.ownsRow B2 5 1 v P.length (ltB (P.map (·.2.1)))) ∧ ∃ B2, OwnI W B2 c (P.map fun p => (p.2.2 : Int))) := fun W hb => by
                  have h := HA.out.keep hb
                  exact ⟨h.ls, h.cs⟩
                have HCL : Hid ((P.map fun p => (p.2.2 : Int)).length ≤ 11) := by show _ ≤ _; simpa using hlp
                have HLL : Hid ((P.map (·.2.1)).length = P.length) := by show _ = _; simp
                obtain ⟨cn, hcn⟩ : ∃ cn, cn = P.map fun p => (p.2.2 : Int) := ⟨_, rfl⟩
                obtain ⟨ls, hls⟩ : ∃ ls, ls = P.map (·.2.1) := ⟨_, rfl⟩
                rw [← hcn] at HAL HCL
                rw [← hls] at HAL HLL
                have HCN := Lib.hid hcn
                have HLS := Lib.hid hls
                clear hcn hls
                obtain ⟨z0, zi, zz0, zz1, zz2⟩ := info_parts Try.info5
                obtain ⟨y0, yi, yz0, yz1, yz2⟩ := info_parts Try.info2
                refine AnyS.invA _ (fun A l ac W => ∃ (f0 f5 f11 f14 s3 s6 s9 s12 s13 : Bool) (x75 x78 x80 x81 x84 x86 x87 x88 x16 : Value) (b5 b11 b14 : Nat), l = #[f0, true, true, s3, true, f5, s6, true, true, s9, true, f11, s12, s13, f14, false] ∧
                  ac = { tmps := ((((((((A.tmps.setIfInBounds 75 x75).setIfInBounds 78 x78).setIfInBounds 80 x80).setIfInBounds 81 x81).setIfInBounds 84 x84).setIfInBounds 86 x86).setIfInBounds 87 x87).setIfInBounds 88 x88).setIfInBounds 16 x16, defers := A.defers } ∧
                  st17 f0 s3 s6 s9 s12 s13 f5 f11 = true ∧ (f5 = true → x80 = .slice (some ⟨b5, 0, none⟩) 1 1) ∧ (f11 = true → x86 = .slice (some ⟨b11, 0, none⟩) 1 1) ∧ (f14 = true → x16 = .pointer (some ⟨b14, 0, none⟩)) ∧ (s13 = true → x88 = .agg #[.slice none 0 0, x81, x87]) ∧
                  Mm w.heap.size w W (ext f14 (b14, [.slice none 0 0, .slice none 0 0, .slice none 0 0], 137) (ext f5 (b5, [.int .u8 (i : Int)], 5) (ext f11 (b11, [.int .i64 (k : Int)], 2) Lo))) (g17 f0 s3 s6 s9 s12 x75 x78 x81 x84 x87 ls i cn k ++ [(vr, 2, i64s r)])) (fun l a W h => by
                    obtain ⟨_, _, _, _, _, _, _, _, _, _, _, _, _, _, _, _, _, _, _, _, _, _, _, _, _, _, _, _, h⟩ := h
                    exact HPB.out _ _ _ _ _ _ _ _ h) ?_ _ _ _ ⟨false, false, false, false, false, false, false, false, false, _, _, _, _, _, _, _, _, _, 0, 0, 0, rfl, act9 _ 75 78 80 81 84 86 87 88 16, rfl, (fun h => by cases h), (fun h => by cases h), (fun h => by cases h), (fun h => by cases h), (by rw [ext_off, ext_off, ext_off, g17_start]; exact hM3)⟩ (Nat.le_of_eq (by kernel_rfl))
                clear hU hM3
                rintro l ac W ⟨f0, f5, f11, f14, s3, s6, s9, s12, s13, x75, x78, x80, x81, x84, x86, x87, x88, x16, b5, b11, b14, rfl, rfl, hst, h80, h86, h16, h88, hM⟩
                (try simp only [List.setIfInBounds_toArray, List.set_cons_zero, List.set_cons_succ])
                by_cases hall : (s13 && f14) = true
                case neg =>
                  --<
                  right
                  refine ⟨?_, ?_⟩
                  · clear h80 h86 h16 h88 hM
                    cases f0 <;> cases s3 <;> cases s6 <;> cases s9 <;> cases s12 <;> cases s13 <;> cases f5 <;> cases f11 <;> cases f14 <;> first | (exact absurd hst (by decide)) | (exact absurd rfl hall) | exact ready_ne (by kernel_rfl)
                  · intro q hq
                    have hmem : pr17 f0 s3 s6 s9 s12 s13 f5 f11 f14 q = true := by
                      clear h80 h86 h16 h88 hM
                      cases f0 <;> cases s3 <;> cases s6 <;> cases s9 <;> cases s12 <;> cases s13 <;> cases f5 <;> cases f11 <;> cases f14 <;> first | (exact absurd hst (by decide)) | (exact absurd rfl hall) | exact all_mem (p := pr17 _ _ _ _ _ _ _ _ _) hq (by kernel_rfl)
                    clear hq hall
                    simp only [pr17, Bool.or_eq_true, Bool.and_eq_true, beq_iff_eq, Bool.not_eq_true'] at hmem
                    have HM := Lib.hid hM
                    have H80 := Lib.hid h80
                    have H86 := Lib.hid h86
                    have H16 := Lib.hid h16
                    have H88 := Lib.hid h88
                    have HST := Lib.hid hst
                    clear hM h80 h86 h16 h88 hst
                    rcases hmem with (((((((⟨rfl, rfl⟩ | ⟨⟨rfl, rfl⟩, rfl⟩) | ⟨rfl, rfl⟩) | ⟨⟨⟨rfl, rfl⟩, rfl⟩, rfl⟩) | ⟨⟨rfl, rfl⟩, rfl⟩) | ⟨rfl, rfl⟩) | ⟨⟨⟨rfl, rfl⟩, rfl⟩, rfl⟩) | ⟨⟨rfl, rfl⟩, rfl⟩) | ⟨rfl, rfl⟩
                    · obtain ⟨rfl, rfl, rfl, rfl, rfl⟩ : s3 = false ∧ s6 = false ∧ s9 = false ∧ s12 = false ∧ s13 = false := by have := HST.out; revert this; cases s3 <;> cases s6 <;> cases s9 <;> cases s12 <;> cases s13 <;> simp [st17]
                      refine wpOp_step rfl (fun K hK => ?_)
                      have HK := Lib.hid hK
                      clear hK
                      go_simp
                      exact HK.out _ _ ⟨true, f5, f11, f14, false, false, false, false, false, _, x78, x80, x81, x84, x86, x87, x88, x16, b5, b11, b14, rfl, rfl, rfl, H80.out, H86.out, H16.out, (fun h => by cases h), HM.out.newOwn #[] 5 0 rfl (by omega)⟩
                    · obtain ⟨rfl, rfl, rfl, rfl⟩ : s6 = false ∧ s9 = false ∧ s12 = false ∧ s13 = false := by have := HST.out; revert this; cases s6 <;> cases s9 <;> cases s12 <;> cases s13 <;> simp [st17]
                      refine wpOp_step rfl (fun K hK => ?_)
                      have HK := Lib.hid hK
                      clear hK
                      obtain ⟨B2, hu⟩ := (HAL.out W HM.out.below).1
                      refine Mm.stepRow rfl (.tmp 75) (.tmp 77) 106 rfl HM.out 0 rfl Try.underlying106 zi zz0 zz1 zz2 rfl rfl rfl (n := P.length) (by rw [ltB_len, HLL.out]) hu (ltB_one ls) (by simp) (by rw [ltB_len, HLL.out]; omega) (by omega) ?_
                      intro v' W' hM'
                      (try simp only [Act.put, List.setIfInBounds_toArray, List.set_cons_zero, List.set_cons_succ])
                      exact HK.out _ _ ⟨true, f5, f11, f14, true, false, false, false, false, x75, v', x80, x81, x84, x86, x87, x88, x16, b5, b11, b14, rfl, rfl, rfl, H80.out, H86.out, H16.out, (fun h => by cases h), hM'⟩
                    · refine wpOp_step rfl (fun K hK => ?_)
                      have HK := Lib.hid hK
                      clear hK
                      go_simp
                      exact HK.out _ _ ⟨f0, true, f11, f14, s3, s6, s9, s12, s13, x75, x78, _, x81, x84, x86, x87, x88, x16, W.heap.size, b11, b14, rfl, rfl, by have := HST.out; revert this; cases f0 <;> cases s3 <;> cases s6 <;> simp [st17], (fun _ => rfl), H86.out, H16.out, H88.out, (HM.out.alloc #[.int .u8 (i : Int)] 5).permL (ext_swap f14 _ _ _)⟩
                    · obtain ⟨rfl, rfl, rfl, rfl⟩ : f0 = true ∧ s9 = false ∧ s12 = false ∧ s13 = false := by have := HST.out; revert this; cases f0 <;> cases s9 <;> cases s12 <;> cases s13 <;> simp [st17]
                      obtain rfl := H80.out rfl
                      refine wpOp_step rfl (fun K hK => ?_)
                      have HK := Lib.hid hK
                      clear hK
                      have hbl := HM.out.blk (b5, [.int .u8 (i : Int)], 5) (ext_mem (List.mem_cons_self ..))
                      refine Mm.stepRow rfl (.tmp 78) (.tmp 80) 106 rfl HM.out 0 rfl Try.underlying106 zi zz0 zz1 zz2 rfl rfl rfl (n := 1) rfl (blk_own hbl.1 hbl.2 1 rfl (by omega)) (by simp [Value.oneCell']) (by rw [ltB_len, HLL.out]; omega) (by simp) (by omega) ?_
                      intro v' W' hM'
                      (try simp only [Act.put, List.setIfInBounds_toArray, List.set_cons_zero, List.set_cons_succ])
                      exact HK.out _ _ ⟨true, true, f11, f14, true, true, false, false, false, x75, x78, _, v', x84, x86, x87, x88, x16, b5, b11, b14, rfl, rfl, rfl, (fun _ => rfl), H86.out, H16.out, (fun h => by cases h), by simpa [g17, ltB] using hM'⟩
                    · obtain ⟨rfl, rfl, rfl, rfl, rfl⟩ : f0 = true ∧ s3 = true ∧ f5 = true ∧ s12 = false ∧ s13 = false := by have := HST.out; revert this; cases f0 <;> cases s3 <;> cases f5 <;> cases s12 <;> cases s13 <;> simp [st17]
                      refine wpOp_step rfl (fun K hK => ?_)
                      have HK := Lib.hid hK
                      clear hK
                      obtain ⟨B2, hu⟩ := (HAL.out W HM.out.below).2
                      have HOW := Lib.hid (l01Own_any c cn (by have := HCL.out; omega) B2 W hu)
                      go_simp
                      refine HOW.out.mono ?_
                      rintro e W' ⟨v', rfl, hb', hO'⟩
                      (try simp only [Act.put, List.setIfInBounds_toArray, List.set_cons_zero, List.set_cons_succ])
                      exact HK.out _ _ ⟨true, true, f11, f14, true, true, true, false, false, x75, x78, x80, x81, v', x86, x87, x88, x16, b5, b11, b14, rfl, rfl, rfl, H80.out, H86.out, H16.out, (fun h => by cases h), HM.out.callOwn hb' hO' (by simp [i64s])⟩
                    · refine wpOp_step rfl (fun K hK => ?_)
                      have HK := Lib.hid hK
                      clear hK
                      go_simp
                      exact HK.out _ _ ⟨f0, f5, true, f14, s3, s6, s9, s12, s13, x75, x78, x80, x81, x84, _, x87, x88, x16, b5, W.heap.size, b14, rfl, rfl, by have := HST.out; revert this; cases f0 <;> cases s3 <;> cases s6 <;> cases s9 <;> cases s12 <;> simp [st17], H80.out, (fun _ => rfl), H16.out, H88.out, (HM.out.alloc #[.int .i64 (k : Int)] 2).permL ((ext_swap f14 _ _ _).trans (ext_cong f14 _ (ext_swap f5 _ _ _)))⟩
                    · obtain ⟨rfl, rfl, rfl, rfl, rfl⟩ : f0 = true ∧ s3 = true ∧ f5 = true ∧ s6 = true ∧ s13 = false := by have := HST.out; revert this; cases f0 <;> cases s3 <;> cases f5 <;> cases s6 <;> cases s13 <;> simp [st17]
                      obtain rfl := H86.out rfl
                      refine wpOp_step rfl (fun K hK => ?_)
                      have HK := Lib.hid hK
                      clear hK
                      have hbl := HM.out.blk (b11, [.int .i64 (k : Int)], 2) (ext_mem (ext_mem (List.mem_cons_self ..)))
                      refine Mm.stepRow rfl (.tmp 84) (.tmp 86) 26 rfl HM.out 0 rfl Try.underlying26 yi yz0 yz1 yz2 rfl rfl rfl (n := 1) rfl (blk_own hbl.1 hbl.2 1 rfl (by omega)) (by simp [Value.oneCell']) (by simp only [i64s, List.length_map]; have := HCL.out; omega) (by simp) (by omega) ?_
                      intro v' W' hM'
                      (try simp only [Act.put, List.setIfInBounds_toArray, List.set_cons_zero, List.set_cons_succ])
                      exact HK.out _ _ ⟨true, true, true, f14, true, true, true, true, false, x75, x78, x80, x81, x84, _, v', x88, x16, b5, b11, b14, rfl, rfl, rfl, H80.out, (fun _ => rfl), H16.out, (fun h => by cases h), by simpa [g17, i64s] using hM'⟩
                    · obtain ⟨rfl, rfl, rfl, rfl, rfl, rfl⟩ : f0 = true ∧ s3 = true ∧ f5 = true ∧ s6 = true ∧ s9 = true ∧ f11 = true := by have := HST.out; revert this; cases f0 <;> cases s3 <;> cases f5 <;> cases s6 <;> cases s9 <;> cases f11 <;> simp [st17]
                      have hO7 := HM.out.own (x87, 2, i64s (cn ++ [(k : Int)])) (by simp [g17])
                      have hO1 := HM.out.own (x81, 5, ltB (ls ++ [i])) (by simp [g17])
                      simp only at hO7 hO1
                      obtain ⟨g7, c7, rfl, -, -, -⟩ := own_form hO7 (by simp [i64s])
                      obtain ⟨g1, c1, rfl, -, -, -⟩ := own_form hO1 (by simp [ltB])
                      clear hO7 hO1
                      refine wpOp_step rfl (fun K hK => ?_)
                      have HK := Lib.hid hK
                      clear hK
                      go_simp
                      exact HK.out _ _ ⟨true, true, true, f14, true, true, true, true, true, x75, x78, x80, _, x84, x86, _, _, x16, b5, b11, b14, rfl, rfl, rfl, H80.out, H86.out, H16.out, (fun _ => rfl), HM.out⟩
                    · refine wpOp_step rfl (fun K hK => ?_)
                      have HK := Lib.hid hK
                      clear hK
                      go_simp
                      exact HK.out _ _ ⟨f0, f5, f11, true, s3, s6, s9, s12, s13, x75, x78, x80, x81, x84, x86, x87, x88, _, b5, b11, W.heap.size, rfl, rfl, HST.out, H80.out, H86.out, (fun _ => rfl), H88.out, HM.out.alloc #[.slice none 0 0, .slice none 0 0, .slice none 0 0] 137⟩
                  -->
                simp only [Bool.and_eq_true] at hall
                obtain ⟨rfl, rfl⟩ := hall
                obtain ⟨rfl, rfl, rfl, rfl, rfl, rfl, rfl⟩ : f0 = true ∧ s3 = true ∧ s6 = true ∧ s9 = true ∧ s12 = true ∧ f5 = true ∧ f11 = true := by revert hst; cases f0 <;> cases s3 <;> cases s6 <;> cases s9 <;> cases s12 <;> cases f5 <;> cases f11 <;> simp [st17]
                obtain rfl := h16 rfl
                obtain rfl := h88 rfl
                clear hst h80 h86 h16 h88
                left
                intro n' hn'
                obtain ⟨n', rfl⟩ : ∃ n2, n' = n2 + 1 := ⟨n' - 1, by have h3 : leftN 16 #[true, true, true, true, true, true, true, true, true, true, true, true, true, true, true, false] = 1 := (by kernel_rfl); have h4 : leftN 16 #[true, true, true, true, true, true, true, true, true, true, true, true, true, true, true, false] ≤ n' := hn'; omega⟩
                clear hn'
                have hO7 := hM.own (x87, 2, i64s (cn ++ [(k : Int)])) (by simp [g17])
                have hO1 := hM.own (x81, 5, ltB (ls ++ [i])) (by simp [g17])
                simp only at hO7 hO1
                have e7 : (i64s (cn ++ [(k : Int)])).length = P.length + 1 := by rw [HCN.out]; simp [i64s]
                have e1 : (ltB (ls ++ [i])).length = P.length + 1 := by rw [ltB_len, List.length_append, HLL.out]; rfl
                rw [e7] at hO7
                rw [e1] at hO1
                obtain ⟨g7, c7, rfl, -, -, -⟩ := own_form hO7 (by omega)
                obtain ⟨g1, c1, rfl, -, -, -⟩ := own_form hO1 (by omega)
                clear hO7 hO1
                have hU : Upto (fun W => Blk W (w.heap.size + 1) [.slice (some ⟨gu, 0, none⟩) (P.length + 1) cu, v, c] 137) [] #[true, true, true, true, true, true, true, true, true, true, true, true, true, true, true, false] W := .inl (HPB.out _ _ _ _ _ _ _ _ hM)
                have hMq := (hM.subG (G' := g17 true true true true true x75 x78 (.slice (some ⟨g1, 0, none⟩) (P.length + 1) c1) x84 (.slice (some ⟨g7, 0, none⟩) (P.length + 1) c7) ls i cn k ++ [(vr, 2, i64s r)]) (List.Sublist.refl _)).sub (L' := (b14, [.slice none 0 0, .slice none 0 0, .slice none 0 0], 137) :: Lo) ((List.Sublist.refl Lo).cons _ |>.cons _ |>.cons_cons _)
                have ht := (hMq.at 0 rfl).there 0 3 (by simp)
                have hM2 := hMq.setAll 0 rfl (vs := [.slice none 0 0, .slice (some ⟨g1, 0, none⟩) (P.length + 1) c1, .slice (some ⟨g7, 0, none⟩) (P.length + 1) c7]) rfl
                have HM2 : Hid (Mm w.heap.size w (W.setCells b14 0 [.slice none 0 0, .slice (some ⟨g1, 0, none⟩) (P.length + 1) c1, .slice (some ⟨g7, 0, none⟩) (P.length + 1) c7]) ((b14, [.slice none 0 0, .slice (some ⟨g1, 0, none⟩) (P.length + 1) c1, .slice (some ⟨g7, 0, none⟩) (P.length + 1) c7], 137) :: Lo) [(.slice (some ⟨g7, 0, none⟩) (P.length + 1) c7, 2, i64s (cn ++ [(k : Int)])), (.slice (some ⟨g1, 0, none⟩) (P.length + 1) c1, 5, ltB (ls ++ [i])), (vr, 2, i64s r)]) := hM2
                have hB := (hM2.blk (w.heap.size + 1, [.slice (some ⟨gu, 0, none⟩) (P.length + 1) cu, v, c], 137) (List.mem_cons_of_mem _ (by rw [HLO.out]; simp))).2
                simp only at hB
                have HB := Lib.hid hB
                clear hB hM hMq hM2 e7 e1
                (refine AnyS.branch (rs := [15]) (by kernel_rfl) (List.cons_ne_nil _ _) ?_; refine AllS.cons rfl ?_ AllS.nil; intro K hK)
                refine ite_of (by kernel_rfl) ?_
                refine wp_st 137 (.tmp 16) (.tmp 88) rfl b14 0 [.slice none 0 0, .slice (some ⟨g1, 0, none⟩) (P.length + 1) c1, .slice (some ⟨g7, 0, none⟩) (P.length + 1) c7] rfl rfl ht (by kernel_rfl) (by simp [Value.oneCell']) ?_
                refine hK.out _ _ (.inl HB.out) (fun hU => ?_)
                clear hK K ht HB
                (try simp only [Act.put, List.setIfInBounds_toArray, List.set_cons_zero, List.set_cons_succ])
                refine AnyS.done (by kernel_rfl) ?_ _
                clear hU
                generalize W.setCells b14 0 [.slice none 0 0, .slice (some ⟨g1, 0, none⟩) (P.length + 1) c1, .slice (some ⟨g7, 0, none⟩) (P.length + 1) c7] = W2 at *
                obtain ⟨ar, cr, rfl, hIr⟩ := (OwnI.of_row (HM2.out.own (vr, 2, i64s r) (by simp))).form
                have HIR := Lib.hid hIr
                have hD1 : ls ++ [i] = (P ++ [(g, i, k)]).map (·.2.1) := by rw [HLS.out]; simp
                have hD2 : cn ++ [(k : Int)] = (P ++ [(g, i, k)]).map fun p => (p.2.2 : Int) := by rw [HCN.out]; simp
                have hD3 : P.map (·.1) ++ [g] = (P ++ [(g, i, k)]).map (·.1) := by simp
                have hPO : POk (P ++ [(g, i, k)]) := fun p hp => by
                  rcases List.mem_append.1 hp with h | h
                  · exact HP.out p h
                  · rw [List.mem_singleton.1 h]; exact HG3.out.2.2
                have hPL : ∀ p ∈ P ++ [(g, i, k)], p.2.1 < 3 := fun p hp => by
                  rcases List.mem_append.1 hp with h | h
                  · exact HPL.out p h
                  · rw [List.mem_singleton.1 h]; exact (by omega : i < 3)
                have hPQ : ∀ p ∈ P ++ [(g, i, k)], p.1.length ≤ 40 := fun p hp => by
                  rcases List.mem_append.1 hp with h | h
                  · exact HQ.out p h
                  · rw [List.mem_singleton.1 h]; exact HGL.out
                have hDL : (P ++ [(g, i, k)]).length = P.length + 1 := by simp
                have HCH := Lib.hid (fun hm => ordC_hit (sub := sub) (P := P) HR.out hm)
                have HCM := Lib.hid (fun hm => ordC_miss (sub := sub) (P := P) HR.out hm)
                have HWS := Lib.hid (HA.out.ws)
                rw [hD1, hD2] at HM2
                rw [hD3] at HWS
                obtain ⟨D, hD⟩ : ∃ D, D = P ++ [(g, i, k)] := ⟨_, rfl⟩
                rw [← hD] at HM2 HWS hPO hPL hPQ hDL HCH HCM
                have HD := Lib.hid hD
                have HPO := Lib.hid hPO
                have HPL2 := Lib.hid hPL
                have HPQ := Lib.hid hPQ
                have HDL := Lib.hid hDL
                have hQl : (D.map (·.1)).length = P.length + 1 := by simpa using hDL
                clear hD1 hD2 hD3 hIr hD hPO hPL hPQ
                have hM2 := HM2.out
                rw [HLO.out] at hM2
                have HFI := Lib.hid (l02Find_any (.slice (some ⟨gu, 0, none⟩) (P.length + 1) cu) (D.map (·.1)) ar r cr (by omega) (fun q => by
                  rcases Nat.lt_or_ge q (D.map (·.1)).length with h | h
                  · rw [List.getElem?_eq_getElem h, Option.getD_some]
                    obtain ⟨p, hp, e⟩ := List.mem_map.1 (List.getElem_mem h)
                    rw [← e]; have := HPQ.out p hp; omega
                  · rw [List.getElem?_eq_none h]; simp) W2 (HWS.out.keep hM2.below).sl HIR.out)
                have c0 := (hM2.at 3 rfl).cell' (i := 0) rfl
                clear HM2 HLO HPB
                by_cases hmem : r ∈ D.map (·.1)
                · have hpl : plc (D.map (·.1)) r = ((D.map (·.1)).idxOf r : Int) := if_pos hmem
                  have hti := List.idxOf_lt_length_iff.2 hmem
                  have HCH2 := Lib.hid (HCH.out hmem)
                  rw [hpl] at HFI
                  generalize (D.map (·.1)).idxOf r = t at *
                  rw [hQl] at hti
                  have i6 : (0 : Int) ≤ (t : Int) := by omega
                  have i7 : (t : Int) < ((P.length + 1 : Nat) : Int) := by omega
                  clear hpl hmem HCH HCM
                  go_wp2_with (refine HFI.out.mono ?_; rintro e w4 ⟨rfl, nd, rfl⟩)
                  have hM3 := hM2.drewN nd
                  clear hM2 HFI c0
                  go_wp2_with fail
                  go_loopw [18, 19, 20] (fun a b q wr => ∃ j : Nat, t ≤ j ∧ j ≤ P.length + 1 ∧ a = .string (txt ((seg D t j).map (·.2.1))) ∧ b = .int .i64 ((pthF (seg D t j) : Nat) : Int) ∧ q = .int .i64 (j : Int) ∧ Mm w.heap.size w wr [(b14, [.slice none 0 0, .slice (some ⟨g1, 0, none⟩) (P.length + 1) c1, .slice (some ⟨g7, 0, none⟩) (P.length + 1) c7], 137), (w.heap.size + 1 + 1 + 1, dnB (seen ++ cycL m g i (cycN m g i)), 124), (w.heap.size + 1 + 1, prC ⟨#[]⟩ 0, 53), (w.heap.size + 1, [.slice (some ⟨gu, 0, none⟩) (P.length + 1) cu, v, c], 137), (w.heap.size, tcells m, 67)] [(.slice (some ⟨g7, 0, none⟩) (P.length + 1) c7, 2, i64s (D.map fun p => (p.2.2 : Int))), (.slice (some ⟨g1, 0, none⟩) (P.length + 1) c1, 5, ltB (D.map (·.2.1))), (.slice ar r.length cr, 2, i64s r)]) (fun _ _ q _ => P.length + 1 - (intOf q).toNat)
                  case atStart => exact ⟨t, Nat.le_refl _, by omega, by rw [seg_start]; rfl, by rw [seg_start]; rfl, rfl, hM3⟩
                  case round =>
                    clear hM3
                    obtain ⟨j, htj, hj, rfl, rfl, rfl, hM⟩ := hrel
                    have c1 := (hM.at 0 rfl).cell' (i := 1) rfl
                    by_cases hlj : j < P.length + 1
                    · skip
                      --<
                      have hjD : j < D.length := by rw [HDL.out]; exact hlj
                      have hO7 := hM.own _ (mem_of_get (i := 0) rfl)
                      have hO1 := hM.own _ (mem_of_get (i := 1) rfl)
                      simp only at hO7 hO1
                      have d1 := hO1.cells (g := g1) rfl j (.int .u8 (D[j].2.1 : Int)) (by simp [ltB, List.getElem?_eq_getElem hjD])
                      have d2 := hO7.cells (g := g7) rfl j (.int .i64 (D[j].2.2 : Int)) (by simp [i64s, List.getElem?_eq_getElem hjD])
                      rw [show (⟨g1, 0, none⟩ : Addr).add j = ⟨g1, j, none⟩ by unfold Addr.add; split <;> simp_all] at d1
                      rw [show (⟨g7, 0, none⟩ : Addr).add j = ⟨g7, j, none⟩ by unfold Addr.add; split <;> simp_all] at d2
                      have hy := HPL2.out _ (List.getElem_mem hjD)
                      have hk := HPO.out _ (List.getElem_mem hjD)
                      have HE := Lib.hid (seg_succ D htj hjD)
                      have HF1 := Lib.hid (pthF_seg HPO.out (by rw [HDL.out]; omega) t j)
                      have hf := HF1.out
                      have hsl : ((seg D t j).map (·.2.1)).length ≤ 12 := by have := seg_len D t j; simp only [List.length_map]; omega
                      have HS1 : Hid (txt ((seg D t (j + 1)).map (·.2.1)) = txt ((seg D t j).map (·.2.1)) ++ strOfNums [48 + (D[j].2.1 : Int)]) := by show _ = _; rw [HE.out, List.map_append, List.map_cons, List.map_nil, txt_snoc]
                      have HS2 : Hid (pthF (seg D t (j + 1)) = pthF (seg D t j) * D[j].2.2) := by show _ = _; rw [HE.out, pthF_snoc]
                      have hts := txt_size ((seg D t j).map (·.2.1))
                      have hov1 : (strOfNums [48 + (D[j].2.1 : Int)]).size = 1 := by rw [strOfNums_size]; rfl
                      clear HE hO7 hO1
                      generalize txt ((seg D t j).map (·.2.1)) = T at *
                      generalize ((seg D t j).map (·.2.1)).length = Tl at *
                      generalize pthF (seg D t j) = F at *
                      generalize D[j].2.1 = y at *
                      generalize D[j].2.2 = kj at *
                      have e9 := IntWalk.u8_in (48 + (y : Int)) ⟨by omega, by omega⟩
                      have e10 : IntKind.i64.wrap ((F : Int) * (kj : Int)) = ((F * kj : Nat) : Int) := by
                        have : F * kj ≤ 531441 * 3 := Nat.mul_le_mul hf.2 hk.2
                        rw [← Int.natCast_mul, IntWalk.i64_in _ (by omega)]
                      have hov2 : ¬ 9223372036854775807 < T.size + (strOfNums [48 + (y : Int)]).size := by rw [hov1]; omega
                      have hov3 : ¬ 9223372036854775807 < T.size + 1 := by omega
                      have hMa := (hM.alloc #[.int .u8 (48 + (y : Int))] 5).sub (List.sublist_cons_self _ _)
                      have HMa := Lib.hid hMa
                      have c2 := (hMa.at 0 rfl).cell' (i := 2) rfl
                      have d3 := (Mm.call hM (Below.alloc (Below.refl _ wr) (Nat.le_refl _) (.cells #[.int .u8 (48 + (y : Int))] 5))).own _ (mem_of_get (i := 0) rfl)
                      have d2' := ((Below.refl _ wr).alloc (Nat.le_refl _) (.cells #[.int .u8 (48 + (y : Int))] 5)).cell (World.block_lt_of_cell? _ _ d2) |>.trans d2
                      have hcv : (convert 106 9 (.slice (some ⟨wr.heap.size, 0, none⟩) 1 1)).run Try.prog (wr.alloc (.cells #[.int .u8 (48 + (y : Int))] 5)) = .ok (.string (strOfNums [48 + (y : Int)])) (wr.alloc (.cells #[.int .u8 (48 + (y : Int))] 5)) := by
                        have hk := Blk.new wr #[.int .u8 (48 + (y : Int))] 5
                        exact run_convert_bytes_arg _ 106 5 Try.underlying106 Try.underlying5 _ 0 1 1 [48 + (y : Int)] rfl (fun i hi => by obtain rfl : i = 0 := (by simpa using hi); exact hk.cell' rfl) 9 Try.underlying9
                      have j1 : (0 : Int) ≤ (j : Int) := by omega
                      have j2 : (j : Int) < ((P.length + 1 : Nat) : Int) := by omega
                      have j3 : (j : Int) < (P.length : Int) + 1 := by omega
                      clear hM hMa d2 d3
                      go_wp2_with fail
                      go_roundw
                      case rel => exact ⟨j + 1, by omega, by omega, by rw [HS1.out], by rw [HS2.out]; go_num, by go_num, HMa.out⟩
                      case measure => simp [intOf] <;> omega
                      -->
                    · have hj' : j = P.length + 1 := by omega
                      subst hj'
                      have hsa := seg_all D t
                      rw [HDL.out] at hsa
                      have hfb := pthF_seg HPO.out (by rw [HDL.out]; omega) t (P.length + 1)
                      rw [hsa] at hfb ⊢
                      have j3 : ¬ ((P.length : Int) + 1) < (P.length : Int) + 1 := by omega
                      by_cases h1 : 1 < pthF (D.drop t)
                      · have HC : Hid (ordC m sub P g i = .inf ((D.drop t).map (·.2.1)) (pthF (D.drop t))) := HCH2.out.trans (if_pos h1)
                        have HF : Hid ((ordL m (ordC m sub P g) g m.l).fin = .inf ((D.drop t).map (·.2.1)) (pthF (D.drop t))) := ordL_fin hlt (ordL_ores HL.out HS.out HC.out (fun k h => by cases h))
                        have f0 := (hM.at 2 rfl).free 0
                        have f1 := (hM.at 2 rfl).free 1
                        have g0 := (hM.at 2 rfl).cell' (i := 0) rfl
                        have g1 := (hM.at 2 rfl).cell' (i := 1) rfl
                        generalize pthF (D.drop t) = F at *
                        generalize (D.drop t).map (·.2.1) = T at *
                        have HM5 := Lib.hid ((hM.setCell 2 rfl 0 (.string (txt T))).setCell 2 rfl 1 (.int .i64 (F : Int)))
                        have i8 : (1 : Int) < (F : Int) := by omega
                        clear hM hsa hfb HC HCH2
                        go_wp2_with fail
                        rw [HF.out]
                        exact bodyPost_ret (v := .tuple #[.int .i64 0, .agg (prC (txt T) F).toArray, .int .i64 0]) (results_mid Try.results109 _ _ (w.heap.size + 1 + 1) 53 (prC (txt T) F).toArray (0, 0) (.struct _) rfl (HM5.out.at 2 rfl) Try.underlying53 rfl infoPr) rfl ⟨HM5.out.below, rfl⟩
                      · skip
                        --<
                        have HC : Hid (ordC m sub P g i = .ok k) := HCH2.out.trans (if_neg h1)
                        have hk1 : k = 1 := by
                          have hkm : (g, i, k) ∈ D.drop t := by
                            rw [HD.out, List.drop_append_of_le_length (by omega)]; simp
                          have h2 := pthF_last (fun p hp => HPO.out p (List.mem_of_mem_drop hp)) hkm
                          have h3 := HG3.out.2.2.1
                          simp only at h2; omega
                        have hn1 := (ordL_ok (fun i h => HOK.out i h) i (by omega) : ((ordL m (ordC m sub P g) g i).fin).Ok)
                        rw [HL.out] at hn1
                        have hn1 : 1 ≤ n ∧ n ≤ 1000000000000 := hn1
                        have HLN := Lib.hid (ordL_go HL.out HS.out HC.out (by rw [hk1, Nat.gcd_one_right, Nat.div_one, Nat.div_one]; omega))
                        subst hk1
                        rw [Nat.gcd_one_right, Nat.div_one, Nat.mul_one] at HLN
                        have i8 : ¬ ((1 : Int) < (pthF (D.drop t) : Int)) := by omega
                        generalize pthF (D.drop t) = F at *
                        have HDV := Lib.hid (l06Divisor_any n 1 hn1.2 (by omega) wr)
                        rw [Nat.gcd_one_right] at HDV
                        have hMs := (hM.subG (G' := []) (List.nil_sublist _)).sub (L' := [(w.heap.size + 1 + 1 + 1, dnB (seen ++ cycL m g i (cycN m g i)), 124), (w.heap.size + 1 + 1, prC ⟨#[]⟩ 0, 53), (w.heap.size + 1, [.slice (some ⟨gu, 0, none⟩) (P.length + 1) cu, v, c], 137), (w.heap.size, tcells m, 67)]) (List.Sublist.cons _ (List.Sublist.refl _))
                        have e9 := IntWalk.u8_in ((i : Int) + 1) ⟨by omega, by omega⟩
                        have e11 := IntWalk.i64_in (n : Int) (by omega)
                        clear hM hsa hfb HC HCH2
                        go_wp2_with (refine HDV.out.mono ?_; rintro e w5 ⟨rfl, nd2, rfl⟩)
                        go_roundw
                        case rel => exact ⟨i + 1, n, _, by omega, by go_num, rfl, HLN.out, hMs.drewN nd2⟩
                        case measure => simp [intOf] <;> omega
                        -->
                · have hpl : plc (D.map (·.1)) r = -1 := if_neg hmem
                  have HCM2 := Lib.hid (HCM.out hmem)
                  rw [hpl] at HFI
                  clear hpl hmem HCH HCM hQl
                  go_wp2_with fail
                  refine HFI.out.mono ?_
                  rintro e w4 ⟨rfl, nd, rfl⟩
                  have hM3 := hM2.drewN nd
                  generalize W2.drewN nd = W3 at *
                  clear hM2 HFI c0
                  have c0 := (hM3.at 3 rfl).cell' (i := 0) rfl
                  rcases (show sub = none ∨ ∃ s, sub = some s by cases sub <;> simp) with hsub | ⟨sb, hsub⟩
                  · have h11 := HLIM.out.1 hsub
                    have HC : Hid (ordC m sub P g i = .lim) := by show _ = _; rw [HCM2.out, hsub]
                    have HF : Hid ((ordL m (ordC m sub P g) g m.l).fin = .lim) := ordL_fin hlt (ordL_ores HL.out HS.out HC.out (fun k h => by cases h))
                    clear hsub
                    have j4 : ((P.length : Int) + 1 == 12) = true := by simp; omega
                    have f0 := (hM3.at 2 rfl).free 0
                    have f1 := (hM3.at 2 rfl).free 1
                    have g0 := (hM3.at 2 rfl).cell' (i := 0) rfl
                    have g1 := (hM3.at 2 rfl).cell' (i := 1) rfl
                    have HM5 := Lib.hid ((hM3.setCell 2 rfl 0 (.string ⟨#[]⟩)).setCell 2 rfl 1 (.int .i64 0))
                    clear hM3 HCM2
                    go_wp2_with fail
                    rw [HF.out]
                    exact bodyPost_ret (v := .tuple #[.int .i64 0, .agg (prC ⟨#[]⟩ 0).toArray, .int .i64 3]) (results_mid Try.results109 _ _ (w.heap.size + 1 + 1) 53 (prC ⟨#[]⟩ 0).toArray (0, 0) (.struct _) rfl (HM5.out.at 2 rfl) Try.underlying53 rfl infoPr) rfl ⟨HM5.out.below, rfl⟩
                  · have h11 : P.length ≠ 11 := fun h => by have := HLIM.out.2 h; rw [hsub] at this; cases this
                    have j4 : ((P.length : Int) + 1 == 12) = false := by simp; omega
                    obtain ⟨B2, rv, hrl, hro, hr1, hrr⟩ := HWS.out
                    have hrl2 : rv.length = P.length + 1 := by rw [hrl, List.length_map, HDL.out]
                    obtain ⟨x0, xi, xz0, xz1, xz2⟩ := info_parts Try.info26
                    have hMn := hM3.newOwn #[] 26 0 rfl (by omega)
                    have hro2 := ownRow_keep hro hMn.below
                    have c0 := (hMn.at 3 rfl).cell' (i := 0) rfl
                    have HRR := Lib.hid hrr
                    have HR1 := Lib.hid hr1
                    clear hM3 hro hrr hr1
                    rw [List.length_map, HDL.out] at hro2
                    have HSB := Lib.hid hsub
                    clear hsub
                    go_wp2_with (at_builtin; refine Mm.appendRow rfl (.tmp 137) (.tmp 139) 35 rfl hMn 0 rfl Try.underlying35 xi xz0 xz1 xz2 rfl rfl rfl (n := P.length + 1) (by rw [hrl2]) hro2 HR1.out (by simp) (by omega) (by omega) ?_)
                    intro v5 w5 hM5
                    (try simp only [List.set_cons_zero, List.nil_append] at hM5)
                    clear hMn hro2 c0
                    go_wp2_with (at_builtin; refine Mm.append rfl (.tmp 140) (.tmp 142) 35 rfl hM5 0 rfl Try.underlying35 xi xz0 xz1 xz2 rfl rfl rfl rfl (by omega) (by omega) ?_)
                    intro g6 c6 w6 hM6
                    (try simp only [List.set_cons_zero] at hM6)
                    (try rw [hrl2] at hM6)
                    (try rw [hrl2])
                    have c0 := (hM6.at 0 rfl).cell' (i := 0) rfl
                    have f0 := (hM6.at 0 rfl).free 0
                    have hM7 := hM6.setCell 0 rfl 0 (.slice (some ⟨g6, 0, none⟩) (P.length + 1 + 1) c6)
                    (try simp only [List.set_cons_zero] at hM7)
                    have hr7 := (hM7.at 4 rfl).all
                    have hp7 := (hM7.at 0 rfl).all
                    (try simp only at hr7 hp7)
                    clear hM5 hM6
                    have HPA : Hid (PthAt (w6.setCell ⟨b14, 0, none⟩ (.slice (some ⟨g6, 0, none⟩) (P.length + 1 + 1) c6)) (.slice (some ⟨g6, 0, none⟩) (P.length + 1 + 1) c6) (.slice (some ⟨g1, 0, none⟩) (P.length + 1) c1) (.slice (some ⟨g7, 0, none⟩) (P.length + 1) c7) D r) := by
                      have hO6 := hM7.own _ (mem_of_get (i := 0) rfl)
                      have hO7 := hM7.own _ (mem_of_get (i := 1) rfl)
                      have hO1 := hM7.own _ (mem_of_get (i := 2) rfl)
                      have hIr := hM7.intsAt 3 rfl
                      simp only at hO6 hO7 hO1
                      refine ⟨⟨w.heap.size, rv ++ [Value.slice ar r.length cr], by simp [hrl], ?_, ?_, ?_⟩, ⟨w.heap.size, ?_⟩, ⟨w.heap.size, ?_⟩⟩
                      · have e : (D.map (·.1) ++ [r]).length = (rv ++ [Value.slice ar r.length cr]).length := by simp [hrl]
                        rw [e]; exact hO6
                      · intro y hy
                        rcases List.mem_append.1 hy with h | h
                        · exact HR1.out y h
                        · rw [List.mem_singleton.1 h]; rfl
                      · intro q hq
                        by_cases hqd : q < (D.map (·.1)).length
                        · obtain ⟨a, c, e, hI⟩ := HRR.out q hqd
                          refine ⟨a, c, ?_, ?_⟩
                          · rw [List.getElem?_append_left (by omega), List.getElem?_append_left hqd]; exact e
                          · rw [List.getElem?_append_left hqd]; exact hI.keep hM7.below
                        · obtain rfl : q = (D.map (·.1)).length := by simp at hq; simp at hqd; simp; omega
                          refine ⟨ar, cr, ?_, ?_⟩
                          · rw [List.getElem?_append_right (by omega), List.getElem?_append_right (by omega), hrl]; simp
                          · rw [List.getElem?_append_right (by omega)]; simpa using hIr
                      · have e : D.length = (ltB (D.map (·.2.1))).length := by simp [ltB]
                        rw [e]; exact hO1
                      · exact OwnI.of_row hO7
                    have HCALL := Lib.hid (HREC.out sb HSB.out D r _ _ _ _ (by rw [HDL.out]) HPO.out HPQ.out HPL2.out HG3.out.1 HG3.out.2.1 HPA.out)
                    go_wp2_with (first | ((with_reducible refine ld_row ?_ 67 (.tmp 2) ?_ w.heap.size 0 ?_ (tcells m) (.struct _) hr7 Try.underlying67 ?_ HT.out ?_); exact rfl; exact rfl; exact rfl; exact rfl) | ((with_reducible refine ld_row ?_ 137 (.tmp 16) ?_ b14 0 ?_ [.slice (some ⟨g6, 0, none⟩) (P.length + 1 + 1) c6, .slice (some ⟨g1, 0, none⟩) (P.length + 1) c1, .slice (some ⟨g7, 0, none⟩) (P.length + 1) c7] (.struct _) hp7 Try.underlying137 ?_ (by kernel_rfl) ?_); exact rfl; exact rfl; exact rfl; exact rfl))
                    refine HCALL.out.mono ?_
                    rintro e w8 ⟨hb8, hR8⟩
                    have hM8 := hM7.call hb8
                    have HSOK := Lib.hid (HSO.out sb HSB.out D r HPO.out (by rw [HDL.out]))
                    have HCX : Hid (ordC m sub P g i = match sb D r with
                        | .ok n => if 1000000000000 < k * n then .lim else .ok (k * n)
                        | e => e) := by show _ = _; rw [HCM2.out, HSB.out]; rfl
                    have hMs := (hM8.subG (G' := []) (List.nil_sublist _)).sub (L' := [(w.heap.size + 1 + 1 + 1, dnB (seen ++ cycL m g i (cycN m g i)), 124), (w.heap.size + 1 + 1, prC ⟨#[]⟩ 0, 53), (w.heap.size + 1, [.slice (some ⟨gu, 0, none⟩) (P.length + 1) cu, v, c], 137), (w.heap.size, tcells m, 67)]) (List.Sublist.cons _ (List.Sublist.refl _))
                    clear HCALL HPA HSO HSB HCM2 hM7 hM8 hb8 hr7 hp7 HRR HR1 HWS HIR HPO HPL2 HPQ
                    generalize sb D r = E at *
                    have hk3 := HG3.out.2.2
                    cases E with
                    | ok n2 =>
                      obtain rfl : e = .returned (.tuple #[.int .i64 (n2 : Int), .agg #[.string ⟨#[]⟩, .int .i64 0], .int .i64 0]) := hR8
                      have hb2 : 1 ≤ n2 ∧ n2 ≤ 1000000000000 := HSOK.out
                      have hn1 := (ordL_ok (fun i h => HOK.out i h) i (by omega) : ((ordL m (ordC m sub P g) g i).fin).Ok)
                      rw [HL.out] at hn1
                      have hn1 : 1 ≤ n ∧ n ≤ 1000000000000 := hn1
                      have hkn : k * n2 ≤ 3000000000000 := Nat.mul_le_mul hk3.2 hb2.2
                      have e12 : IntKind.i64.wrap ((k : Int) * (n2 : Int)) = ((k * n2 : Nat) : Int) := by rw [← Int.natCast_mul, IntWalk.i64_in _ (by omega)]
                      have j5 : ((n2 : Int) == 0) = false := by simp; omega
                      have hM9 := hMs.alloc #[.string ⟨#[]⟩, .int .i64 0] 53
                      have f0 := (hM9.at 0 rfl).free 0
                      have f1 := (hM9.at 0 rfl).free 1
                      have g0 := (hM9.at 0 rfl).cell' (i := 0) rfl
                      have g1 := (hM9.at 0 rfl).cell' (i := 1) rfl
                      have hMx := hMs.alloc #[.string ⟨#[]⟩, .int .i64 0] 53
                      have hC1 : 1 ≤ k * n2 := Nat.mul_pos hk3.1 hb2.1
                      by_cases hbig : 1000000000000 < k * n2
                      · have HC : Hid (ordC m sub P g i = .lim) := HCX.out.trans (if_pos hbig)
                        have HF : Hid ((ordL m (ordC m sub P g) g m.l).fin = .lim) := ordL_fin hlt (ordL_ores HL.out HS.out HC.out (fun k h => by cases h))
                        have j6 : (1000000000000 : Int) < ((k * n2 : Nat) : Int) := by omega
                        clear hM9 HCX HC hbig
                        go_wp2_with fail
                        clear f0 f1 g0 g1
                        obtain ⟨wq, hwq⟩ : ∃ W, W = w8.alloc (.cells #[.string ⟨#[]⟩, .int .i64 0] 53) := ⟨_, rfl⟩
                        rw [← hwq] at hMx ⊢
                        rw [← Int.natCast_mul]
                        clear hwq hMs e12
                        generalize k * n2 = C at *
                        have f0 : ∀ q, (wq.drewN q).frozen? ⟨w.heap.size + 1 + 1, 0, none⟩ = false := fun q => (hMx.at 2 rfl).free 0
                        have f1 : ∀ q, (wq.drewN q).frozen? ⟨w.heap.size + 1 + 1, 1, none⟩ = false := fun q => (hMx.at 2 rfl).free 1
                        have g0 : ∀ q, (wq.drewN q).cell? ⟨w.heap.size + 1 + 1, 0, none⟩ = some (.string ⟨#[]⟩) := fun q => (hMx.at 2 rfl).cell' (i := 0) rfl
                        have g1 : ∀ q, (wq.drewN q).cell? ⟨w.heap.size + 1 + 1, 1, none⟩ = some (.int .i64 0) := fun q => (hMx.at 2 rfl).cell' (i := 1) rfl
                        have HM5 := Lib.hid (fun q => ((hMx.drewN q).setCell 2 rfl 0 (.string ⟨#[]⟩)).setCell 2 rfl 1 (.int .i64 0))
                        clear hMx
                        go_quiet (fail)
                        go_wp2_with fail
                        rw [HF.out]
                        exact bodyPost_ret (v := .tuple #[.int .i64 0, .agg (prC ⟨#[]⟩ 0).toArray, .int .i64 3]) (results_mid Try.results109 _ _ (w.heap.size + 1 + 1) 53 (prC ⟨#[]⟩ 0).toArray (0, 0) (.struct _) rfl ((HM5.out _).at 2 rfl) Try.underlying53 rfl infoPr) rfl ⟨(HM5.out _).below, rfl⟩
                      · have HC : Hid (ordC m sub P g i = .ok (k * n2)) := HCX.out.trans (if_neg hbig)
                        have j6 : ¬ ((1000000000000 : Int) < ((k * n2 : Nat) : Int)) := by omega
                        clear hM9 HCX
                        go_wp2_with fail
                        clear f0 f1 g0 g1
                        obtain ⟨wq, hwq⟩ : ∃ W, W = w8.alloc (.cells #[.string ⟨#[]⟩, .int .i64 0] 53) := ⟨_, rfl⟩
                        rw [← hwq] at hMx ⊢
                        rw [← Int.natCast_mul]
                        clear hwq hMs e12
                        have HMx := Lib.hid hMx
                        have f0 : ∀ q, (wq.drewN q).frozen? ⟨w.heap.size + 1 + 1, 0, none⟩ = false := fun q => (hMx.at 2 rfl).free 0
                        have f1 : ∀ q, (wq.drewN q).frozen? ⟨w.heap.size + 1 + 1, 1, none⟩ = false := fun q => (hMx.at 2 rfl).free 1
                        have g0 : ∀ q, (wq.drewN q).cell? ⟨w.heap.size + 1 + 1, 0, none⟩ = some (.string ⟨#[]⟩) := fun q => (hMx.at 2 rfl).cell' (i := 0) rfl
                        have g1 : ∀ q, (wq.drewN q).cell? ⟨w.heap.size + 1 + 1, 1, none⟩ = some (.int .i64 0) := fun q => (hMx.at 2 rfl).cell' (i := 1) rfl
                        have hC2 : k * n2 ≤ 1000000000000 := by omega
                        clear hMx hb2 hkn j5 hbig
                        generalize k * n2 = C at *
                        have HDQ := Lib.hid (fun W => l06Divisor_any n C hn1.2 hC2 W)
                        have hd0 : 0 < Nat.gcd n C := Nat.gcd_pos_of_pos_left _ (by omega)
                        have hdn : Nat.gcd n C ≤ n := Nat.gcd_le_left _ (by omega)
                        have HLB := Lib.hid (fun hb3 => ordL_big HL.out HS.out HC.out hb3)
                        have HLG := Lib.hid (fun hb3 => ordL_go HL.out HS.out HC.out hb3)
                        clear HC
                        generalize Nat.gcd n C = d at *
                        have hq1 : n / d ≤ n := Nat.div_le_self _ _
                        have hq2 : 1000000000000 / C ≤ 1000000000000 := Nat.div_le_self _ _
                        have e13 : IntKind.i64.wrap ((n : Int) / (d : Int)) = ((n / d : Nat) : Int) := by
                          rw [← Int.natCast_ediv]
                          generalize n / d = qq at *
                          exact IntWalk.i64_in _ (by omega)
                        have e14 : IntKind.i64.wrap (Int.tdiv 1000000000000 (C : Int)) = ((1000000000000 / C : Nat) : Int) := by
                          rw [Int.tdiv_eq_ediv_of_nonneg (by omega)]
                          rw [show (1000000000000 : Int) / (C : Int) = ((1000000000000 / C : Nat) : Int) by rw [Int.natCast_ediv]; rfl]
                          generalize 1000000000000 / C = qq at *
                          exact IntWalk.i64_in _ (by omega)
                        have j8 : d ≠ 0 := by omega
                        have j9 : C ≠ 0 := by omega
                        have hqc : n / d * C ≤ 1000000000000 ∨ 1000000000000 / C < n / d := by
                          rcases Nat.lt_or_ge (1000000000000 / C) (n / d) with h | h
                          · exact .inr h
                          · exact .inl (Nat.le_trans (Nat.mul_le_mul_right C h) (Nat.div_mul_le_self _ _))
                        obtain ⟨q1, hq1'⟩ : ∃ q, q = n / d := ⟨_, rfl⟩
                        obtain ⟨q2, hq2'⟩ : ∃ q, q = 1000000000000 / C := ⟨_, rfl⟩
                        rw [← hq1'] at e13 HLB HLG hqc
                        rw [← hq2'] at e14 HLB HLG hqc
                        clear hq1 hq2 hq1' hq2' hdn hd0
                        by_cases hb3 : q2 < q1
                        · have HF : Hid ((ordL m (ordC m sub P g) g m.l).fin = .lim) := ordL_fin hlt (HLB.out hb3)
                          have j7 : (q2 : Int) < (q1 : Int) := by omega
                          have HM5 := Lib.hid (fun q => ((HMx.out.drewN q).setCell 2 rfl 0 (.string ⟨#[]⟩)).setCell 2 rfl 1 (.int .i64 0))
                          clear hqc HLB HLG
                          go_quiet ((go_at_call 139; exact Calls.quiet_of (HDQ.out _)))
                          go_wp2_with fail
                          rw [HF.out]
                          exact bodyPost_ret (v := .tuple #[.int .i64 0, .agg (prC ⟨#[]⟩ 0).toArray, .int .i64 3]) (results_mid Try.results109 _ _ (w.heap.size + 1 + 1) 53 (prC ⟨#[]⟩ 0).toArray (0, 0) (.struct _) rfl ((HM5.out _).at 2 rfl) Try.underlying53 rfl infoPr) rfl ⟨(HM5.out _).below, rfl⟩
                        · have HLN := Lib.hid (HLG.out hb3)
                          have j7 : ¬ ((q2 : Int) < (q1 : Int)) := by omega
                          have hqc : q1 * C ≤ 1000000000000 := by omega
                          have e15 : IntKind.i64.wrap ((q1 : Int) * (C : Int)) = ((q1 * C : Nat) : Int) := by rw [← Int.natCast_mul, IntWalk.i64_in _ (by omega)]
                          have e9 := IntWalk.u8_in ((i : Int) + 1) ⟨by omega, by omega⟩
                          have HMl := Lib.hid (fun q => (HMx.out.drewN q).sub (L' := [(w.heap.size + 1 + 1 + 1, dnB (seen ++ cycL m g i (cycN m g i)), 124), (w.heap.size + 1 + 1, prC ⟨#[]⟩ 0, 53), (w.heap.size + 1, [.slice (some ⟨gu, 0, none⟩) (P.length + 1) cu, v, c], 137), (w.heap.size, tcells m, 67)]) (List.Sublist.cons _ (List.Sublist.refl _)))
                          clear HLB HLG HMx f0 f1 g0 g1
                          go_quiet ((go_at_call 139; exact Calls.quiet_of (HDQ.out _)))
                          go_wp2_with (refine (HDQ.out _).mono ?_; rintro e w5 ⟨rfl, nd2, rfl⟩)
                          go_roundw
                          case rel => exact ⟨i + 1, q1 * C, _, by omega, by go_num, by go_num, HLN.out, HMl.out _⟩
                          case measure => simp [intOf] <;> omega
                    | inf ls2 f =>
                      obtain rfl : e = .returned (.tuple #[.int .i64 0, .agg #[.string (txt ls2), .int .i64 (f : Int)], .int .i64 0]) := hR8
                      have HF : Hid ((ordL m (ordC m sub P g) g m.l).fin = .inf ls2 f) := ordL_fin hlt (ordL_ores HL.out HS.out HCX.out (fun k h => by cases h))
                      have hM9 := hMs.alloc #[.string ⟨#[]⟩, .int .i64 0] 53
                      have f0 := (hM9.at 0 rfl).free 0
                      have f1 := (hM9.at 0 rfl).free 1
                      have g0 := (hM9.at 0 rfl).cell' (i := 0) rfl
                      have g1 := (hM9.at 0 rfl).cell' (i := 1) rfl
                      clear HCX
                      go_wp2_with fail
                      have hMx := (hMs.alloc #[.string (txt ls2), .int .i64 (f : Int)] 53).drew
                      obtain ⟨W9, hW9⟩ : ∃ W, W = (w8.alloc (.cells #[.string (txt ls2), .int .i64 (f : Int)] 53)).drew := ⟨_, rfl⟩
                      rw [← hW9] at hMx
                      refine region_S (fun W => Blk W w8.heap.size [.string (txt ls2), .int .i64 (f : Int)] 53) [] 5 rfl HMX.out (by rw [← hW9]; exact hMx.at 0 rfl) (fun hU => ?_)
                      rw [← hW9] at hU ⊢
                      clear hW9
                      (refine AnyS.takeS (i := 0) rfl (by kernel_rfl) (by kernel_rfl) (by kernel_rfl) (by rfl) (by kernel_rfl) (by kernel_rfl) (fun _ _ _ h => h) (by rfl) (by intro W hSw; have h0 := hSw.cell' (i := 0) rfl; have h1 := hSw.cell' (i := 1) rfl; clear hSw; go_simp; with_reducible rfl) hU (fun hU => ?_); (try simp only [Act.put, List.setIfInBounds_toArray, List.set_cons_zero, List.set_cons_succ]))
                      (refine AnyS.take (i := 1) rfl (by kernel_rfl) (by kernel_rfl) (by kernel_rfl) (by rfl) (fun _ _ _ h => h) (by rfl) (by intro w; go_simp; with_reducible rfl) hU (fun hU => ?_); (try simp only [Act.put, List.setIfInBounds_toArray, List.set_cons_zero, List.set_cons_succ]); refine AnyS.take (i := 2) rfl (by kernel_rfl) (by kernel_rfl) (by kernel_rfl) (by rfl) (fun _ _ _ h => h) (by rfl) (by intro w; go_simp; with_reducible rfl) hU (fun hU => ?_); (try simp only [Act.put, List.setIfInBounds_toArray, List.set_cons_zero, List.set_cons_succ]))
                      have ht := (hMx.at 2 rfl).there 0 2 (by simp [prC])
                      have hMy := hMx.setAll 2 rfl (vs := [.string (txt ls2), .int .i64 (f : Int)]) rfl
                      have hBy := hMy.at 0 rfl
                      (try simp only at hBy)
                      have HBY := Lib.hid hBy
                      have HMY := Lib.hid hMy
                      clear hMx hMy hBy
                      (refine AnyS.branch (rs := [3]) (by kernel_rfl) (List.cons_ne_nil _ _) ?_; refine AllS.cons rfl ?_ AllS.nil; intro K hK)
                      refine ite_of (by kernel_rfl) ?_
                      refine wp_st 53 (.tmp 5) (.tmp 158) rfl (w.heap.size + 1 + 1) 0 [.string (txt ls2), .int .i64 (f : Int)] rfl rfl ht infoPr (by simp [Value.oneCell']) ?_
                      refine hK.out _ _ (.inl HBY.out) (fun hU => ?_)
                      clear hK K ht HBY
                      (try simp only [Act.put, List.setIfInBounds_toArray, List.set_cons_zero, List.set_cons_succ])
                      (refine AnyS.take (i := 4) rfl (by kernel_rfl) (by kernel_rfl) (by kernel_rfl) (by rfl) (fun _ _ _ h => h) (by rfl) (by intro w; go_simp; with_reducible rfl) hU (fun hU => ?_); (try simp only [Act.put, List.setIfInBounds_toArray, List.set_cons_zero, List.set_cons_succ]))
                      refine AnyS.done (by kernel_rfl) ?_ _
                      clear hU
                      go_wp2_with fail
                      rw [HF.out]
                      exact bodyPost_ret (v := .tuple #[.int .i64 0, .agg (prC (txt ls2) f).toArray, .int .i64 0]) (results_mid Try.results109 _ _ (w.heap.size + 1 + 1) 53 (prC (txt ls2) f).toArray (0, 0) (.struct _) rfl (HMY.out.at 2 rfl) Try.underlying53 rfl infoPr) rfl ⟨HMY.out.below, rfl⟩
                    | lim =>
                      obtain rfl : e = .returned (.tuple #[.int .i64 0, .agg #[.string ⟨#[]⟩, .int .i64 0], .int .i64 3]) := hR8
                      have HF : Hid ((ordL m (ordC m sub P g) g m.l).fin = .lim) := ordL_fin hlt (ordL_ores HL.out HS.out HCX.out (fun k h => by cases h))
                      have hM9 := hMs.alloc #[.string ⟨#[]⟩, .int .i64 0] 53
                      have f0 := (hM9.at 0 rfl).free 0
                      have f1 := (hM9.at 0 rfl).free 1
                      have g0 := (hM9.at 0 rfl).cell' (i := 0) rfl
                      have g1 := (hM9.at 0 rfl).cell' (i := 1) rfl
                      clear HCX
                      go_wp2_with fail
                      have hMx := (hMs.alloc #[.string ⟨#[]⟩, .int .i64 0] 53).drew
                      obtain ⟨W9, hW9⟩ : ∃ W, W = (w8.alloc (.cells #[.string ⟨#[]⟩, .int .i64 0] 53)).drew := ⟨_, rfl⟩
                      rw [← hW9] at hMx
                      refine region_S (fun W => Blk W w8.heap.size [.string ⟨#[]⟩, .int .i64 0] 53) [] 5 rfl HMX.out (by rw [← hW9]; exact hMx.at 0 rfl) (fun hU => ?_)
                      rw [← hW9] at hU ⊢
                      clear hW9
                      (refine AnyS.takeS (i := 0) rfl (by kernel_rfl) (by kernel_rfl) (by kernel_rfl) (by rfl) (by kernel_rfl) (by kernel_rfl) (fun _ _ _ h => h) (by rfl) (by intro W hSw; have h0 := hSw.cell' (i := 0) rfl; have h1 := hSw.cell' (i := 1) rfl; clear hSw; go_simp; with_reducible rfl) hU (fun hU => ?_); (try simp only [Act.put, List.setIfInBounds_toArray, List.set_cons_zero, List.set_cons_succ]))
                      (refine AnyS.take (i := 1) rfl (by kernel_rfl) (by kernel_rfl) (by kernel_rfl) (by rfl) (fun _ _ _ h => h) (by rfl) (by intro w; go_simp; with_reducible rfl) hU (fun hU => ?_); (try simp only [Act.put, List.setIfInBounds_toArray, List.set_cons_zero, List.set_cons_succ]); refine AnyS.take (i := 2) rfl (by kernel_rfl) (by kernel_rfl) (by kernel_rfl) (by rfl) (fun _ _ _ h => h) (by rfl) (by intro w; go_simp; with_reducible rfl) hU (fun hU => ?_); (try simp only [Act.put, List.setIfInBounds_toArray, List.set_cons_zero, List.set_cons_succ]))
                      have ht := (hMx.at 2 rfl).there 0 2 (by simp [prC])
                      have hMy := hMx.setAll 2 rfl (vs := [.string ⟨#[]⟩, .int .i64 0]) rfl
                      have hBy := hMy.at 0 rfl
                      (try simp only at hBy)
                      have HBY := Lib.hid hBy
                      have HMY := Lib.hid hMy
                      clear hMx hMy hBy
                      (refine AnyS.branch (rs := [3]) (by kernel_rfl) (List.cons_ne_nil _ _) ?_; refine AllS.cons rfl ?_ AllS.nil; intro K hK)
                      refine ite_of (by kernel_rfl) ?_
                      refine wp_st 53 (.tmp 5) (.tmp 158) rfl (w.heap.size + 1 + 1) 0 [.string ⟨#[]⟩, .int .i64 0] rfl rfl ht infoPr (by simp [Value.oneCell']) ?_
                      refine hK.out _ _ (.inl HBY.out) (fun hU => ?_)
                      clear hK K ht HBY
                      (try simp only [Act.put, List.setIfInBounds_toArray, List.set_cons_zero, List.set_cons_succ])
                      (refine AnyS.take (i := 4) rfl (by kernel_rfl) (by kernel_rfl) (by kernel_rfl) (by rfl) (fun _ _ _ h => h) (by rfl) (by intro w; go_simp; with_reducible rfl) hU (fun hU => ?_); (try simp only [Act.put, List.setIfInBounds_toArray, List.set_cons_zero, List.set_cons_succ]))
                      refine AnyS.done (by kernel_rfl) ?_ _
                      clear hU
                      go_wp2_with fail
                      rw [HF.out]
                      exact bodyPost_ret (v := .tuple #[.int .i64 0, .agg (prC ⟨#[]⟩ 0).toArray, .int .i64 3]) (results_mid Try.results109 _ _ (w.heap.size + 1 + 1) 53 (prC ⟨#[]⟩ 0).toArray (0, 0) (.struct _) rfl (HMY.out.at 2 rfl) Try.underlying53 rfl infoPr) rfl ⟨HMY.out.below, rfl⟩
      · have hi' : i = m.l := by omega
        subst hi'
        have HF : Hid ((ordL m (ordC m sub P g) g m.l).fin = .ok n) := by show _ = _; rw [HL.out]; rfl
        have f0 := (hM.at 1 rfl).free 0
        have f1 := (hM.at 1 rfl).free 1
        have g0 := (hM.at 1 rfl).cell' (i := 0) rfl
        have g1 := (hM.at 1 rfl).cell' (i := 1) rfl
        have HM5 := Lib.hid ((hM.setCell 1 rfl 0 (.string ⟨#[]⟩)).setCell 1 rfl 1 (.int .i64 0))
        clear hM HL
        go_wp2_with fail
        rw [HF.out]
        exact bodyPost_ret (v := .tuple #[.int .i64 (n : Int), .agg (prC ⟨#[]⟩ 0).toArray, .int .i64 0]) (results_mid Try.results109 _ _ (w.heap.size + 1 + 1) 53 (prC ⟨#[]⟩ 0).toArray (0, 0) (.struct _) rfl (HM5.out.at 1 rfl) Try.underlying53 rfl infoPr) rfl ⟨HM5.out.below, rfl⟩
end Go.Proofs.Yteagecoiijhflaa
