/- BoundaryWords of the reference. -/
import Derived.Test.YtmacnofkpdikiaaW2
import Derived.Test.YtmacnofkpdikiaaU
namespace Go.Proofs.Ytmacnofkpdikiaa
open Go.RowKit
set_option linter.unusedVariables false
set_option linter.unusedSimpArgs false

theorem bls_info (tv : Nat → Bool) : (Try.prog.info? 89).map (·.size) = some (bls tv).length := by rw [show (bls tv).length = 16 by simp [bls]]; kernel_rfl
theorem bls_one (tv : Nat → Bool) : ∀ v ∈ bls tv, v.oneCell' = true := fun v hv => by simp only [bls, List.mem_map] at hv; obtain ⟨z, _, rfl⟩ := hv; rfl

set_option maxRecDepth 100000 in
set_option maxHeartbeats 2000000 in
theorem specBoundaryWords_any (m : Mch) (hwf : m.Wf) (n : Int) (w : World) :
    Calls Try.prog 39 #[.agg m.cells.toArray, .int .i64 n] w (RetI (bwL m n) (levC m n) w) := by
  obtain ⟨i0, hi, hz0, hz1, hz2⟩ := info_parts Try.info2
  have hm := MAt.boxed w m 44
  have hb0 := boxedBelow w m.cells.toArray 44
  have HR := Lib.hid (levC_range m n)
  go_enter Try.func39, Try.ntmps39
  go_wp2_with ((with_reducible refine ld_mach ?_ (.tmp 2) ?_ (w.heap.size) (0) ?_ m hm hwf ?_); exact rfl; exact rfl; exact rfl)
  refine (l05Code_any m hwf n _).mono ?_
  rintro e w1 ⟨rfl, hb1⟩
  have hm1 := hm.keep hb1 hwf
  have hbb1 := hb0.trans (hb1.mono hb0.size)
  by_cases c0 : levC m n = 0
  · obtain ⟨hok, j, rfl, hj, hj5⟩ := levC_zero c0
    have HL : Hid (bwL m j = whereL (bwP m j) (m.l ^ j)) := by show _ = _; rw [bwL, if_pos c0]; simp
    have HC := Lib.hid c0
    rw [c0]
    clear c0
    have hl2 := hok.l_ge
    have hl3 := hok.l_le
    have hs16 := hok.s_le
    have hp := pow_level hl2 hl3 hj
    go_wp2_with ((with_reducible refine ld_mach ?_ (.tmp 2) ?_ (w.heap.size) (0) ?_ m hm1 hwf ?_); exact rfl; exact rfl; exact rfl)
    refine (l01Trivial_any m hwf hok _).mono ?_
    rintro e w2 ⟨rfl, hb2⟩
    have hm2 := hm1.keep hb2 hwf
    have hbb2 := hbb1.trans (hb2.mono hbb1.size)
    have hM0 := ((Mm.start w2).alloc #[] 2).alloc #[.bool false, .bool false, .bool false, .bool false, .bool false, .bool false, .bool false, .bool false, .bool false, .bool false, .bool false, .bool false, .bool false, .bool false, .bool false, .bool false] 89
    rw [show (w2.alloc (.cells #[] 2)).heap.size = w2.heap.size + 1 by simp] at hM0
    have ht := (hM0.at 0 rfl).there 0 (bls (trivB m)).length (by simp [bls])
    have hM1 := (hM0.setAll 0 rfl (vs := bls (trivB m)) (by simp [bls])).addOwn (b := w2.heap.size) (cs := []) (T := 2) (by simp) 0 rfl (by omega)
    simp only [List.set_cons_zero, show (List.filter (fun x : Nat × List Value × TypeId => x.1 != w2.heap.size) [(w2.heap.size + 1, bls (trivB m), 89), (w2.heap.size, ([] : List Value), 2)]) = [(w2.heap.size + 1, bls (trivB m), 89)] from by simp] at hM1
    have HI := Lib.hid (bls_info (trivB m))
    have H1 := Lib.hid (bls_one (trivB m))
    have hbw : w.heap.size < w2.heap.size := World.block_lt_of_cell? w2 ⟨w.heap.size, 0, none⟩ hm2.l
    clear hM0 hm1 hm
    go_wp2_with ((with_reducible refine st_row ?_ 89 (.tmp 7) (.tmp 21) ?_ (w2.heap.size + 1) 0 (bls (trivB m)) ?_ ?_ ht HI.out H1.out ?_); exact rfl; exact rfl; exact rfl; exact rfl)
    clear ht
    have HPOW : Hid (∀ W, Calls Try.prog 82 #[.int .i64 m.l, .int .i64 j] W fun e w' => e = .returned (.int .i64 ((m.l ^ j : Nat) : Int)) ∧ W = w') := fun W => l01Power_any m.l j hl3 (by omega) W
    have HWO : Hid (∀ (k : Nat) W, k ≤ 1000 → Calls Try.prog 83 #[.int .i64 m.l, .int .i64 j, .int .i64 k] W (Ret (.string (txt (digs m.l j k))) W)) := fun (k : Nat) W hk => l01WordOf_any m.l hl2 hl3 j k (by omega) (by omega) W
    obtain ⟨P, hP⟩ : ∃ P, P = m.l ^ j := ⟨_, rfl⟩
    rw [← hP] at hp HL HPOW
    clear hP
    go_loopw [8, 9] (fun v i wr => ∃ k : Nat, k ≤ P ∧ i = .int .i64 k ∧ Mm w2.heap.size w2 wr [(w2.heap.size + 1, bls (trivB m), 89)] [(v, 2, i64s (whereL (bwP m j) k))]) (fun _ i _ => P - (intOf i).toNat)
    case atStart => exact ⟨0, Nat.zero_le _, rfl, hM1⟩
    case round =>
      clear hM1
      obtain ⟨k, hk, rfl, hM⟩ := hrel
      have hmr := hm2.below hM.below hbw
      have hcl : wr.cell? ⟨w.heap.size, 0, none⟩ = some (.int .i64 (m.l : Int)) := by rw [← hok.L_eq]; exact hmr.l
      by_cases hlt : k < P
      · go_wp2_with fail
        refine (HPOW.out _).mono ?_
        rintro e w' ⟨rfl, rfl⟩
        have i1 : (k : Int) < (P : Int) := by omega
        go_wp2_with fail
        obtain ⟨wo, rfl⟩ : ∃ wo : World, wo = wr := ⟨_, rfl⟩
        have HM := Lib.hid hM
        have hwm : w.heap.size < wo.heap.size := World.block_lt_of_cell? wo _ hcl
        have hBo := hM.at 0 rfl
        clear hM hcl
        go_loopw [10, 11] (fun a i wi => ∃ q : Nat, q ≤ m.s ∧ i = .int .i64 q ∧ a = .bool ((List.range q).any fun q => !trivB m (wsec m j q k)) ∧ Below wo.heap.size wo wi) (fun _ i _ => m.s - (intOf i).toNat)
        case atStart => exact ⟨0, Nat.zero_le _, rfl, rfl, Below.refl _ _⟩
        case round =>
          obtain ⟨q, hq, rfl, rfl, hbi⟩ := hrel
          have hmi := hmr.below hbi hwm
          have hcs : wr.cell? ⟨w.heap.size, 1, none⟩ = some (.int .i64 (m.s : Int)) := by rw [← hok.S_eq]; exact hmi.s
          by_cases hqlt : q < m.s
          · have hmx : Try.prog.follows .mixedOrders = true := by kernel_rfl
            have HMX := Lib.hid hmx
            have HIM := Lib.hid (mach_info hwf)
            have HX := Lib.hid (any_upto_succ (fun q => !trivB m (wsec m j q k)) q)
            have HWS : Hid ((runL m q (lts (txt (digs m.l j k)))).2 = wsec m j q k) := by show _ = _; rw [word_lts hok]; rfl
            have HACT : Hid (∀ W, Calls Try.prog 72 #[.agg m.cells.toArray, .int .i64 q, .string (txt (digs m.l j k))] W fun e w' => e = .returned (.tuple #[.string (txt (runL m q (lts (txt (digs m.l j k)))).1), .int .i64 (runL m q (lts (txt (digs m.l j k)))).2]) ∧ Below W.heap.size W w') :=
              fun W => l01Act_any m hwf hok q hqlt _ (word_lets hok j k) (by rw [txt_size, digs_length]; omega) W
            clear hmx
            go_wp2_with fail
            have HS : Hid (∀ W, Below wr.heap.size wr W → MAt W w.heap.size 0 m) := fun W hW => hmi.keep hW hwf
            have HLL : Hid (m.L = (m.l : Int)) := hok.L_eq
            refine region_S (fun W => MAt W w.heap.size 0 m) [] 13 rfl HMX.out (hmi.drewN 1) (fun hU => ?_)
            obtain ⟨W, hW⟩ : ∃ W, W = wr.drew := ⟨_, rfl⟩
            have hBW : Below wr.heap.size wr W := by rw [hW]; exact (Below.refl _ wr).drew
            rw [← hW] at hU ⊢
            clear hW
            (refine AnyS.takeS (i := 0) rfl (by kernel_rfl) (by kernel_rfl) (by kernel_rfl) (by rfl) (by kernel_rfl) (by kernel_rfl) (fun _ _ _ h => h) (by rfl) (fun W hW => run_ld Try.underlying44 rfl HIM.out (.tmp 2) rfl rfl hW) hU (fun hU => ?_); (try simp only [Act.put, List.setIfInBounds_toArray, List.set_cons_zero, List.set_cons_succ]))
            (refine AnyS.take (i := 1) rfl (by kernel_rfl) (by kernel_rfl) (by kernel_rfl) (by rfl) (fun _ _ _ h => h) (by rfl) (by intro w; go_simp; with_reducible rfl) hU (fun hU => ?_); (try simp only [Act.put, List.setIfInBounds_toArray, List.set_cons_zero, List.set_cons_succ]); refine AnyS.take (i := 2) rfl (by kernel_rfl) (by kernel_rfl) (by kernel_rfl) (by rfl) (fun _ _ _ h => h) (by rfl) (by intro w; go_simp; with_reducible rfl) hU (fun hU => ?_); (try simp only [Act.put, List.setIfInBounds_toArray, List.set_cons_zero, List.set_cons_succ]))
            (refine AnyS.takeS (i := 3) rfl (by kernel_rfl) (by kernel_rfl) (by kernel_rfl) (by rfl) (by kernel_rfl) (by kernel_rfl) (fun _ _ _ h => h) (by rfl) (by intro W hSw; have hl := hSw.l; rw [HLL.out] at hl; go_simp; with_reducible rfl) hU (fun hU => ?_); (try simp only [Act.put, List.setIfInBounds_toArray, List.set_cons_zero, List.set_cons_succ]))
            (refine AnyS.take (i := 4) rfl (by kernel_rfl) (by kernel_rfl) (by kernel_rfl) (by rfl) (fun _ _ _ h => h) (by rfl) (by intro w; go_simp; with_reducible rfl) hU (fun hU => ?_); (try simp only [Act.put, List.setIfInBounds_toArray, List.set_cons_zero, List.set_cons_succ]); refine AnyS.take (i := 5) rfl (by kernel_rfl) (by kernel_rfl) (by kernel_rfl) (by rfl) (fun _ _ _ h => h) (by rfl) (by intro w; go_simp; with_reducible rfl) hU (fun hU => ?_); (try simp only [Act.put, List.setIfInBounds_toArray, List.set_cons_zero, List.set_cons_succ]))
            refine AnyS.branch (rs := [6]) (by kernel_rfl) (by simp) (AllS.cons rfl (fun K hK => ?_) AllS.nil)
            go_simp
            refine (HWO.out k _ (by omega)).mono ?_
            rintro e w4 ⟨rfl, hb4⟩
            have hB4 := hBW.trans (hb4.mono hBW.size)
            refine hK.out _ _ (.inl (HS.out _ hB4)) (fun hU => ?_)
            clear hK K hBW
            (try simp only [Act.put, List.setIfInBounds_toArray, List.set_cons_zero, List.set_cons_succ])
            refine AnyS.branch (rs := [7]) (by kernel_rfl) (by simp) (AllS.cons rfl (fun K hK => ?_) AllS.nil)
            go_simp
            refine (HACT.out _).mono ?_
            rintro e w5 ⟨rfl, hb5⟩
            have hB5 := hB4.trans (hb5.mono hB4.size)
            refine hK.out _ _ (.inl (HS.out _ hB5)) (fun hU => ?_)
            clear hK K hB4
            (try simp only [Act.put, List.setIfInBounds_toArray, List.set_cons_zero, List.set_cons_succ])
            rw [HWS.out]
            have hbi5 := hbi.trans (hB5.mono hbi.size)
            have hBi := (hBo.keep hbi5).cell' (bls_get (trivB m) (q := wsec m j q k) (by have := wsec_lt hok hwf hqlt j k; have := hok.s_le; omega))
            have hr : wsec m j q k < 16 := by have := wsec_lt hok hwf hqlt j k; have := hok.s_le; omega
            generalize (runL m q (lts (txt (digs m.l j k)))).1 = o1 at *
            generalize wsec m j q k = r at *
            (refine AnyS.take (i := 8) rfl (by kernel_rfl) (by kernel_rfl) (by kernel_rfl) (by rfl) (fun _ _ _ h => h) (by rfl) (by intro w; go_simp; with_reducible rfl) hU (fun hU => ?_); (try simp only [Act.put, List.setIfInBounds_toArray, List.set_cons_zero, List.set_cons_succ]); refine AnyS.take (i := 9) rfl (by kernel_rfl) (by kernel_rfl) (by kernel_rfl) (by rfl) (fun _ _ _ h => h) (by rfl) (by intro w; go_simp; with_reducible rfl) hU (fun hU => ?_); (try simp only [Act.put, List.setIfInBounds_toArray, List.set_cons_zero, List.set_cons_succ]); refine AnyS.take (i := 10) rfl (by kernel_rfl) (by kernel_rfl) (by kernel_rfl) (by rfl) (fun _ _ _ h => h) (by rfl) (by intro w; go_simp; with_reducible rfl) hU (fun hU => ?_); (try simp only [Act.put, List.setIfInBounds_toArray, List.set_cons_zero, List.set_cons_succ]))
            refine AnyS.branch (rs := [11]) (by kernel_rfl) (by simp) (AllS.cons rfl (fun K hK => ?_) AllS.nil)
            go_simp
            refine hK.out _ _ (.inl (HS.out _ hB5)) (fun hU => ?_)
            clear hK K
            (try simp only [Act.put, List.setIfInBounds_toArray, List.set_cons_zero, List.set_cons_succ])
            refine AnyS.branch (rs := [12]) (by kernel_rfl) (by simp) (AllS.cons rfl (fun K hK => ?_) AllS.nil)
            go_simp
            refine hK.out _ _ (.inl (HS.out _ hB5)) (fun hU => ?_)
            clear hK K
            (try simp only [Act.put, List.setIfInBounds_toArray, List.set_cons_zero, List.set_cons_succ])
            refine AnyS.done (by kernel_rfl) ?_ _
            have i3 : (0 : Int) ≤ (r : Int) := by omega
            have i4 : (r : Int) < 16 := by omega
            clear hmi hcs hU
            cases ha : (List.range q).any (fun q => !trivB m (wsec m j q k))
            · rw [ha] at HX
              clear ha
              go_wp2_with fail
              go_roundw
              case rel => exact ⟨q + 1, by omega, by go_num, by rw [HX.out]; simp, hbi5⟩
              case measure => simp [intOf]; omega
            · rw [ha] at HX
              clear ha
              go_wp2_with fail
              go_roundw
              case rel => exact ⟨q + 1, by omega, by go_num, by rw [HX.out]; simp, hbi5⟩
              case measure => simp [intOf]; omega
          · have hq' : q = m.s := by omega
            subst hq'
            have HSU := Lib.hid (whereL_succ (bwP m j) k)
            have HBW : Hid (bwP m j k = (List.range m.s).any fun q => !trivB m (wsec m j q k)) := rfl
            have hM2 := HM.out.call hbi
            have hwl := whereL_len (bwP m j) k
            have hil : (i64s (whereL (bwP m j) k)).length ≤ 1000000 := by simp only [i64s, List.length_map]; omega
            rw [← HBW.out]
            clear hmi hBo
            cases hpj : bwP m j k
            · rw [hpj] at HSU
              simp only [Bool.false_eq_true, if_false, List.append_nil] at HSU
              rw [← HSU.out] at hM2
              clear hpj
              go_wp2_with fail
              go_roundw
              case rel => exact ⟨k + 1, by omega, by go_num, hM2⟩
              case measure => simp [intOf]; omega
            · rw [hpj] at HSU
              simp only [if_true] at HSU
              clear hpj
              go_wp2_with (at_builtin; refine Mm.append rfl (.tmp 56) (.tmp 58) 39 rfl hM2 0 rfl Try.underlying39 hi hz0 hz1 hz2 rfl rfl rfl rfl (by omega) (by omega) ?_)
              intro g' cap' w3 hM3
              have HM3 : Hid (Mm w2.heap.size w2 w3 [(w2.heap.size + 1, bls (trivB m), 89)] [(.slice (some ⟨g', 0, none⟩) ((i64s (whereL (bwP m j) k)).length + 1) cap', 2, i64s (whereL (bwP m j) (k + 1)))]) := by
                rw [HSU.out]; show Mm _ _ _ _ _; simpa [i64s] using hM3
              clear hM2 hM3
              go_wp2_with fail
              go_roundw
              case rel => exact ⟨k + 1, by omega, by go_num, HM3.out⟩
              case measure => simp [intOf]; omega
      · have hk' : k = P := by omega
        subst hk'
        have i1 : ¬ (k : Int) < (k : Int) := by omega
        go_wp2_with fail
        refine (HPOW.out _).mono ?_
        rintro e w' ⟨rfl, rfl⟩
        have hb := hbb2.trans (hM.below.mono hbb2.size)
        have ho : Hid (OwnI wr w2.heap.size u8 (whereL (bwP m j) k)) := by
          have := hM.own _ (List.mem_cons_self ..)
          show World.ownsRow _ _ _ _ _ _ _
          simpa [i64s] using this
        clear hM hmr hcl
        go_wp2_with fail
        go_ret2
        rw [HL.out, HC.out]
        exact ⟨_, rfl, hb, ho.out.less hbb2.size⟩
  · have HL : Hid (bwL m n = []) := by show _ = _; rw [bwL, if_neg c0]
    have c1 : (levC m n != 0) = true := by simpa using c0
    clear c0
    generalize hc : levC m n = c at *
    clear hc
    go_wp2_with fail
    go_ret2
    rw [HL.out]
    exact ⟨_, rfl, hbb1, OwnI.nil _ _⟩
theorem whereLv_len {m : Mch} {n : Int} (h : levC m n = 0) (p : Nat → Bool) : (whereL p (m.l ^ n.toNat)).length ≤ 100000 := by
  obtain ⟨hok, j, rfl, hj, _⟩ := levC_zero h
  have h1 := pow_level hok.l_ge hok.l_le hj
  have h2 := whereL_len p (m.l ^ j)
  simp only [Int.toNat_natCast]
  omega
theorem bwL_len (m : Mch) (n : Int) : (bwL m n).length ≤ 100000 := by
  unfold bwL
  split
  · rename_i h; exact whereLv_len h _
  · simp
end Go.Proofs.Ytmacnofkpdikiaa
