import Derived.Test.YteagecoiijhflaaYBall20
import Derived.Test.YteagecoiijhflaaYBall13
/- (*ball).put of the program. -/
namespace Go.Proofs.Yteagecoiijhflaa
open Go.RowKit
set_option linter.unusedVariables false
set_option linter.unusedSimpArgs false

def bcell (G : Nat) (ga : Option Addr) (ng gc : Nat) (vw vm : Value) (f : Nat) (vs : Value) : List Value := [.pointer (some ⟨G, 0, none⟩), .slice ga ng gc, vw, vm, .int .i64 (f : Int), vs]
/-- the slices of a ball -/
def ballG (s : Bs) (vw : Value) (rw : List Value) (vm vs : Value) (st : List Nat) : List Gr :=
  ⟨vw, 26, 1, s.length, rw⟩ :: ⟨vm, 29, 98, s.length, cellsM (s.map (·.2))⟩ :: ⟨vs, 2, 1, st.length, i64s (natsI st)⟩ :: (rowG rw (s.map (·.1))).map Gr.of
theorem ballG_new {s : Bs} {wd : Wd} {M : Mch} {v vw vm vs : Value} {rw : List Value} {st : List Nat} {GR : List Gr} (hl : rw.length = s.length) :
    (⟨v, 2, 1, wd.length, i64s wd⟩ :: ⟨vw, 26, 1, s.length + 1, rw ++ [v]⟩ :: ⟨vm, 29, 98, s.length + 1, cellsM (s.map (·.2)) ++ M.cells⟩ :: ⟨vs, 2, 1, st.length, i64s (natsI st)⟩ :: ((rowG rw (s.map (·.1))).map Gr.of ++ GR) : List Gr).Perm (ballG (s ++ [(wd, M)]) vw (rw ++ [v]) vm vs st ++ GR) := by
  have e1 : rowG (rw ++ [v]) ((s ++ [(wd, M)]).map (·.1)) = rowG rw (s.map (·.1)) ++ [(v, 2, i64s wd)] := by
    rw [List.map_append]
    exact rowG_snoc v wd (by rw [hl, List.length_map])
  have e2 : Gr.of (v, 2, i64s wd) = ⟨v, 2, 1, wd.length, i64s wd⟩ := by simp [Gr.of, i64s]
  unfold ballG
  rw [e1]
  simp only [List.map_append, List.map_cons, List.map_nil, e2, List.length_append, List.length_singleton, cellsM_snoc, List.cons_append, List.append_assoc, List.nil_append]
  refine ((List.Perm.swap _ _ _).trans (List.Perm.cons _ ((List.Perm.swap _ _ _).trans (List.Perm.cons _ ((List.Perm.swap _ _ _).trans (List.Perm.cons _ List.perm_middle.symm))))))

def RetPu (w0 w : World) (b G : Nat) (ga : Option Addr) (ng gc f : Nat) (vs : Value) (st : List Nat) (GR : List Gr) (vw vm : Value) (rw : List Value) (n : Nat) (r : Except Int Bs) (e : Ending) (w' : World) : Prop := match r with
  | .error c => e = .returned (.int .i64 c) ∧ Below w0.heap.size w0 w'
  | .ok s' => e = .returned (.int .i64 0) ∧ ∃ vw' vm' rw', rw'.length = s'.length ∧ (∃ R, rw' = rw ++ R) ∧ Mg w0.heap.size w0 w' [(b, bcell G ga ng gc vw' vm' f vs, 97)] (ballG s' vw' rw' vm' vs st ++ GR) ∧
    ∀ gw xs, Hdr w b vw vm n gw xs → Hdr w' b vw' vm' s'.length gw xs
theorem putB_none {m : Mch} {s : Bs} {w : Wd} (h : mwR m w = none) : putB m s w = .error 3 := by unfold putB; rw [h]
theorem putB_old {m : Mch} {s : Bs} {w : Wd} {M : Mch} (h : mwR m w = some M) (hp : 0 ≤ posM (s.map (·.2)) M) : putB m s w = .ok s := by unfold putB; rw [h]; exact if_pos hp
theorem putB_full {m : Mch} {s : Bs} {w : Wd} {M : Mch} (h : mwR m w = some M) (hp : ¬ 0 ≤ posM (s.map (·.2)) M) (hs : s.length = 200) : putB m s w = .error 3 := by unfold putB; rw [h]; exact (if_neg hp).trans (if_pos hs)
theorem putB_new {m : Mch} {s : Bs} {w : Wd} {M : Mch} (h : mwR m w = some M) (hp : ¬ 0 ≤ posM (s.map (·.2)) M) (hs : ¬ s.length = 200) : putB m s w = .ok (s ++ [(w, M)]) := by unfold putB; rw [h]; exact (if_neg hp).trans (if_neg hs)
theorem Mg.intsA {B : Nat} {w0 w : World} {L : List (Nat × List Value × TypeId)} {G : List Gr} (h : Mg B w0 w L G) (i : Nat) {a : Option Addr} {c : Nat} {wd : Wd} (hi : G[i]? = some ⟨.slice a wd.length c, 2, 1, wd.length, i64s wd⟩) : IntsAt w a wd := by
  have ho : OwnI w B (.slice a wd.length c) wd := h.row i hi
  obtain ⟨a', c', e, hI⟩ := ho.form
  injection e with e1
  rw [e1]; exact hI

theorem info_mach : ∃ i0 z, Try.prog.info? 29 = some i0 ∧ i0.zero = some z ∧ i0.size = 98 ∧ z.cells.size = 98 ∧ i0.bytes ≤ 1000 := by
  have h : ((Try.prog.info? 29).elim false fun i => i.size == 98 && decide (i.bytes ≤ 1000) && i.zero.elim false fun z => z.cells.size == 98) = true := by kernel_rfl
  cases hi : Try.prog.info? 29 with
  | none => rw [hi] at h; cases h
  | some i =>
    rw [hi] at h
    cases hz : i.zero with
    | none => simp [hz] at h
    | some z =>
      simp [hz] at h
      exact ⟨i, z, rfl, hz, h.1.1, h.2, h.1.2⟩
set_option maxRecDepth 100000 in
set_option maxHeartbeats 4000000 in
theorem put_any (m : Mch) (hwf : m.Wf) (hok : m.Ok) (G : Nat) (w0 : World) (hG : GrpR w0 G m) (b : Nat) (ga : Option Addr) (ng gc f : Nat) (vw vm vs : Value) (rw : List Value) (st : List Nat) (s : Bs) (GR : List Gr) (a : Option Addr) (wd : Wd) (c : Nat) (hg : GW m wd) (hl : wd.length ≤ 1000)
    (hms : ∀ M ∈ s.map (·.2), M.Wf) (hs : s.length ≤ 200) (hrw : rw.length = s.length) (w : World)
    (hM : Mg w0.heap.size w0 w [(b, bcell G ga ng gc vw vm f vs, 97)] (⟨.slice a wd.length c, 2, 1, wd.length, i64s wd⟩ :: (ballG s vw rw vm vs st ++ GR))) :
    Calls Try.prog 144 #[.pointer (some ⟨b, 0, none⟩), .slice a wd.length c] w (RetPu w0 w b G ga ng gc f vs st GR vw vm rw s.length (putB m s wd)) := by
  have HMX := Lib.hid (show Try.prog.follows .mixedOrders = true by kernel_rfl)
  have HGW := Lib.hid hg
  have HMS := Lib.hid hms
  have HRW := Lib.hid hrw
  have HMA := Lib.hid (machine_any G m hwf hok a wd c hg hl w (hG.keep hM.below) (hM.intsA 0 rfl))
  have c0 := (hM.at 0 rfl).cell' (i := 0) rfl
  have HM0 := Lib.hid hM
  have HW : Hid (∀ M, mwR m wd = some M → M.Wf) := fun M h => mwT_wf hok hwf hg h
  clear hG hM hg hms hrw
  go_enter Try.func144, Try.ntmps144
  go_wp2_with fail
  refine HMA.out.mono ?_
  rintro e w1 ⟨hb1, hR1⟩
  have hM1 := (HM0.out.call hb1).alloc Try.zeroCells29 29
  have HB1 := Lib.hid hb1
  cases hp : mwR m wd with
  | none =>
    rw [hp] at hR1
    obtain rfl := hR1
    have HP := Lib.hid (putB_none (s := s) hp)
    have HIZ : Hid ((Try.prog.info? 29).map (·.size) = some Try.zeroCells29.toList.length) := by show _ = _; rw [zero_len]; kernel_rfl
    have HOZ : Hid (∀ v ∈ Try.zeroCells29.toList, v.oneCell' = true) := zero_ones
    have ht := (hM1.at 0 rfl).there 0 Try.zeroCells29.toList.length (by simp)
    have hM2 := hM1.setAll 0 rfl (vs := Try.zeroCells29.toList) rfl
    have HM2 := Lib.hid hM2
    clear hM1 hM2 hp HMA HM0 hb1 c0
    go_wp2_with ((with_reducible refine st_row ?_ 29 (.tmp 5) (.tmp 14) ?_ w1.heap.size 0 Try.zeroCells29.toList ?_ ?_ ht HIZ.out HOZ.out ?_); exact rfl; exact rfl; exact rfl; exact rfl)
    go_ret
    rw [HP.out]
    exact ⟨rfl, HM2.out.below⟩
  | some M =>
    rw [hp] at hR1
    obtain rfl := hR1
    have hwM := HW.out M hp
    have HWM := Lib.hid hwM
    have HIM := Lib.hid (mach_infoT hwM)
    have HOM := Lib.hid (mach_ones M)
    have ht := (hM1.at 0 rfl).there 0 M.cells.length (by simp only; rw [zero_len, Mch.cells_length hwM]; omega)
    have hM2 := hM1.setAll 0 rfl (vs := M.cells) (by rw [zero_len, Mch.cells_length hwM])
    have HBW := Lib.hid ((((Mg.start w).call hb1).alloc Try.zeroCells29 29).setAll 0 rfl (vs := M.cells) (by rw [zero_len, Mch.cells_length hwM])).below
    have hS2 : (W : World) → Mg w0.heap.size w0 W [(w1.heap.size, M.cells, 29), (b, bcell G ga ng gc vw vm f vs, 97)] (⟨.slice a wd.length c, 2, 1, wd.length, i64s wd⟩ :: (ballG s vw rw vm vs st ++ GR)) → MAt W w1.heap.size 0 M ∧ W.cell? ⟨b, 3, none⟩ = some vm := fun W h => ⟨h.mach 0 rfl, (h.at 1 rfl).cell' (i := 3) rfl⟩
    have HS2 := Lib.hid hS2
    have HM2 := Lib.hid hM2
    have HPO := Lib.hid (fun h => putB_old (s := s) hp h)
    have HPF := Lib.hid (fun h h' => putB_full (s := s) hp h h')
    have HPN := Lib.hid (fun h h' => putB_new (s := s) hp h h')
    clear hM1 hM2 hp HMA HM0 hb1 c0 hS2 HW hwM
    go_wp2_with ((with_reducible refine st_row ?_ 29 (.tmp 5) (.tmp 14) ?_ w1.heap.size 0 M.cells ?_ ?_ ht HIM.out HOM.out ?_); exact rfl; exact rfl; exact rfl; exact rfl)
    obtain ⟨am, cm, rfl⟩ := HM2.out.sl 2 (v := vm) rfl
    have HCN := Lib.hid (fun (W : World) (h : MsAt W am (s.map (·.2))) => slContainsM_any am cm (s.map (·.2)) (by simp; omega) HMS.out M HWM.out W h)
    have HLM : Hid ((s.map (·.2)).length = s.length) := List.length_map _
    rw [HLM.out] at HCN
    have HMA2 : Hid (∀ W, Mg w0.heap.size w0 W [(w1.heap.size, M.cells, 29), (b, bcell G ga ng gc vw (.slice am s.length cm) f vs, 97)] (⟨.slice a wd.length c, 2, 1, wd.length, i64s wd⟩ :: (ballG s vw rw (.slice am s.length cm) vs st ++ GR)) → MsAt W am (s.map (·.2))) := fun W h => h.ms (i := 2) HMS.out HLM.out.symm rfl
    have HM3 : Hid (Mg w0.heap.size w0 ((w1.alloc (.cells Try.zeroCells29 29)).setCells w1.heap.size 0 M.cells).drew [(w1.heap.size, M.cells, 29), (b, bcell G ga ng gc vw (.slice am s.length cm) f vs, 97)] (⟨.slice a wd.length c, 2, 1, wd.length, i64s wd⟩ :: (ballG s vw rw (.slice am s.length cm) vs st ++ GR))) := HM2.out.drewN 1
    have HBW2 : Hid (Below w.heap.size w ((w1.alloc (.cells Try.zeroCells29 29)).setCells w1.heap.size 0 M.cells).drew) := HBW.out.trans ⟨rfl, rfl, rfl, Nat.le_refl _, fun _ _ => rfl⟩
    generalize posM (s.map (·.2)) M = pp at *
    clear HM2 ht
    refine region_A (fun W => MAt W w1.heap.size 0 M ∧ W.cell? ⟨b, 3, none⟩ = some (.slice am s.length cm)) [] 7 (fun W => Mg w0.heap.size w0 W [(w1.heap.size, M.cells, 29), (b, bcell G ga ng gc vw (.slice am s.length cm) f vs, 97)] (⟨.slice a wd.length c, 2, 1, wd.length, i64s wd⟩ :: (ballG s vw rw (.slice am s.length cm) vs st ++ GR)) ∧ Below w.heap.size w W) rfl HMX.out ⟨HM3.out, HBW2.out⟩ (fun W h => HS2.out W h.1) (fun W hMW' hU => ?_)
    obtain ⟨hMW, hBW⟩ := hMW'
    clear HM3
    (refine AnyS.take (i := 0) rfl (by kernel_rfl) (by kernel_rfl) (by kernel_rfl) (by rfl) (fun _ _ _ h => h) (by rfl) (by intro w; go_simp; with_reducible rfl) hU (fun hU => ?_); (try simp only [Act.put, List.setIfInBounds_toArray, List.set_cons_zero, List.set_cons_succ]); refine AnyS.take (i := 1) rfl (by kernel_rfl) (by kernel_rfl) (by kernel_rfl) (by rfl) (fun _ _ _ h => h) (by rfl) (by intro w; go_simp; with_reducible rfl) hU (fun hU => ?_); (try simp only [Act.put, List.setIfInBounds_toArray, List.set_cons_zero, List.set_cons_succ]); refine AnyS.take (i := 2) rfl (by kernel_rfl) (by kernel_rfl) (by kernel_rfl) (by rfl) (fun _ _ _ h => h) (by rfl) (by intro w; go_simp; with_reducible rfl) hU (fun hU => ?_); (try simp only [Act.put, List.setIfInBounds_toArray, List.set_cons_zero, List.set_cons_succ]))
    (refine AnyS.takeS (i := 3) rfl (by kernel_rfl) (by kernel_rfl) (by kernel_rfl) (by rfl) (by kernel_rfl) (by kernel_rfl) (fun _ _ _ h => h) (by rfl) (by intro W hSw; have h1 := hSw.2; clear hSw; go_simp; with_reducible rfl) hU (fun hU => ?_); (try simp only [Act.put, List.setIfInBounds_toArray, List.set_cons_zero, List.set_cons_succ]))
    (refine AnyS.takeS (i := 4) rfl (by kernel_rfl) (by kernel_rfl) (by kernel_rfl) (by rfl) (by kernel_rfl) (by kernel_rfl) (fun _ _ _ h => h) (by rfl) (fun W hW => run_ld Try.underlying29 rfl HIM.out (.tmp 5) rfl rfl hW.1) hU (fun hU => ?_); (try simp only [Act.put, List.setIfInBounds_toArray, List.set_cons_zero, List.set_cons_succ]))
    (refine AnyS.branch (rs := [5]) (by kernel_rfl) (List.cons_ne_nil _ _) ?_; refine AllS.cons rfl ?_ AllS.nil; intro K hK)
    go_simp
    refine (HCN.out W (HMA2.out W hMW)).mono ?_
    rintro e w3 ⟨rfl, hb3⟩
    have hM3 := hMW.call hb3
    have HKP : Hid (KeepR w w3 vw (.slice am s.length cm) s.length) := (KeepR.refl _ _ _ _).below (hBW.trans (hb3.mono hBW.size))
    refine hK.out _ _ (.inl (HS2.out _ hM3)) (fun hU => ?_)
    clear hK K hMW hb3 hBW
    (try simp only [Act.put, List.setIfInBounds_toArray, List.set_cons_zero, List.set_cons_succ])
    (refine AnyS.take (i := 6) rfl (by kernel_rfl) (by kernel_rfl) (by kernel_rfl) (by rfl) (fun _ _ _ h => h) (by rfl) (by intro w; go_simp; with_reducible rfl) hU (fun hU => ?_); (try simp only [Act.put, List.setIfInBounds_toArray, List.set_cons_zero, List.set_cons_succ]))
    refine AnyS.done (by kernel_rfl) ?_ _
    clear hU
    have HM4 := Lib.hid hM3
    have c2 := (hM3.at 1 rfl).cell' (i := 2) rfl
    by_cases hpp : 0 ≤ pp
    · have hd : decide (0 ≤ pp) = true := decide_eq_true hpp
      have HP := Lib.hid (HPO.out hpp)
      have HM5 := Lib.hid ((HM4.out.sub (L' := [(b, bcell G ga ng gc vw (.slice am s.length cm) f vs, 97)]) (List.sublist_cons_self _ _)).subG (G' := ballG s vw rw (.slice am s.length cm) vs st ++ GR) (List.sublist_cons_self _ _))
      rw [hd]
      clear hM3 c2 HM4 hd
      go_wp2_with fail
      go_ret
      rw [HP.out]
      exact ⟨rfl, _, _, _, HRW.out, ⟨[], (List.append_nil _).symm⟩, HM5.out, fun gw xs hH => hH.keep HKP.out (Nat.le_refl _) (.inl rfl) (.inl rfl)⟩
    · have hd : decide (0 ≤ pp) = false := decide_eq_false hpp
      have c3 := (hM3.at 1 rfl).cell' (i := 3) rfl
      obtain ⟨aw, cw, rfl⟩ := HM4.out.sl 1 (v := vw) rfl
      rw [hd]
      by_cases h200 : s.length = 200
      · have HP := Lib.hid (HPF.out (by omega) h200)
        have j1 : ((s.length : Int) == 200) = true := by simp; omega
        clear hM3 c3 hd h200
        go_wp2_with fail
        go_ret
        rw [HP.out]
        exact ⟨rfl, HM4.out.below⟩
      · have HP := Lib.hid (HPN.out (by omega) h200)
        have j1 : ((s.length : Int) == 200) = false := by simp; omega
        have HM5 := Lib.hid (HM4.out.drewN 1)
        have HKP2 := Lib.hid (HKP.out.below (w2 := w3.drew) ⟨rfl, rfl, rfl, Nat.le_refl _, fun _ _ => rfl⟩)
        clear hM3 hd h200 HPF HPO HPN HM4 HKP
        go_wp2_with fail
        obtain ⟨i0, hi0, hz0, hz1, hz2⟩ := info_parts Try.info26
        obtain ⟨j0, jz, hj0, hy0, hy1, hy2, hy3⟩ := info_mach
        have HML := Lib.hid (Mch.cells_length HWM.out)
        have HS3 : Hid (∀ W G' X, Mg w0.heap.size w0 W (X ++ [(w1.heap.size, M.cells, 29), (b, bcell G ga ng gc (.slice aw s.length cw) (.slice am s.length cm) f vs, 97)]) G' → W.cell? ⟨b, 2, none⟩ = some (.slice aw s.length cw) ∧ W.cell? ⟨b, 3, none⟩ = some (.slice am s.length cm) ∧ MAt W w1.heap.size 0 M) := fun W G' X h => by
          have h := h.sub (List.sublist_append_right _ _)
          exact ⟨(h.at 1 rfl).cell' (i := 2) rfl, (h.at 1 rfl).cell' (i := 3) rfl, h.mach 0 rfl⟩
        have HM6 : Hid (Mg w0.heap.size w0 w3.drew [(w1.heap.size, M.cells, 29), (b, bcell G ga ng gc (.slice aw s.length cw) (.slice am s.length cm) f vs, 97)] (⟨.slice a wd.length c, 2, 1, wd.length, i64s wd⟩ :: (ballG s (.slice aw s.length cw) rw (.slice am s.length cm) vs st ++ GR))) := HM5.out
        clear HM5 c2 c3
        generalize w1.heap.size = b5 at *
        refine region_A (fun W => W.cell? ⟨b, 2, none⟩ = some (.slice aw s.length cw) ∧ W.cell? ⟨b, 3, none⟩ = some (.slice am s.length cm) ∧ MAt W b5 0 M) [18] 22 (fun W => Mg w0.heap.size w0 W [(b5, M.cells, 29), (b, bcell G ga ng gc (.slice aw s.length cw) (.slice am s.length cm) f vs, 97)] (⟨.slice a wd.length c, 2, 1, wd.length, i64s wd⟩ :: (ballG s (.slice aw s.length cw) rw (.slice am s.length cm) vs st ++ GR)) ∧ KeepR w W (.slice aw s.length cw) (.slice am s.length cm) s.length) rfl HMX.out ⟨HM6.out, HKP2.out⟩ (fun W h => HS3.out W _ [] h.1) (fun W hMW' hU => ?_)
        obtain ⟨hM6, hK6⟩ := hMW'
        have hM6 : Mg w0.heap.size w0 W [(b5, M.cells, 29), (b, bcell G ga ng gc (.slice aw s.length cw) (.slice am s.length cm) f vs, 97)] (⟨.slice a wd.length c, 2, 1, wd.length, i64s wd⟩ :: ⟨.slice aw s.length cw, 26, 1, s.length, rw⟩ :: ⟨.slice am s.length cm, 29, 98, s.length, cellsM (s.map (·.2))⟩ :: ⟨vs, 2, 1, st.length, i64s (natsI st)⟩ :: ((rowG rw (s.map (·.1))).map Gr.of ++ GR)) := hM6
        clear HM6 HKP2
        (refine AnyS.take (i := 0) rfl (by kernel_rfl) (by kernel_rfl) (by kernel_rfl) (by rfl) (fun _ _ _ h => h) (by rfl) (by intro w; go_simp; with_reducible rfl) hU (fun hU => ?_); (try simp only [Act.put, List.setIfInBounds_toArray, List.set_cons_zero, List.set_cons_succ]); refine AnyS.take (i := 1) rfl (by kernel_rfl) (by kernel_rfl) (by kernel_rfl) (by rfl) (fun _ _ _ h => h) (by rfl) (by intro w; go_simp; with_reducible rfl) hU (fun hU => ?_); (try simp only [Act.put, List.setIfInBounds_toArray, List.set_cons_zero, List.set_cons_succ]); refine AnyS.take (i := 2) rfl (by kernel_rfl) (by kernel_rfl) (by kernel_rfl) (by rfl) (fun _ _ _ h => h) (by rfl) (by intro w; go_simp; with_reducible rfl) hU (fun hU => ?_); (try simp only [Act.put, List.setIfInBounds_toArray, List.set_cons_zero, List.set_cons_succ]); refine AnyS.take (i := 3) rfl (by kernel_rfl) (by kernel_rfl) (by kernel_rfl) (by rfl) (fun _ _ _ h => h) (by rfl) (by intro w; go_simp; with_reducible rfl) hU (fun hU => ?_); (try simp only [Act.put, List.setIfInBounds_toArray, List.set_cons_zero, List.set_cons_succ]); refine AnyS.take (i := 4) rfl (by kernel_rfl) (by kernel_rfl) (by kernel_rfl) (by rfl) (fun _ _ _ h => h) (by rfl) (by intro w; go_simp; with_reducible rfl) hU (fun hU => ?_); (try simp only [Act.put, List.setIfInBounds_toArray, List.set_cons_zero, List.set_cons_succ]))
        (refine AnyS.takeV [18] (i := 5) rfl (by kernel_rfl) (by kernel_rfl) (by kernel_rfl) (by rfl) (by kernel_rfl) (by kernel_rfl) (by kernel_rfl) (fun _ _ _ h => h) (by rfl) (by intro W hSw; have h1 := hSw.1; clear hSw; go_simp; with_reducible rfl) hU (fun hU => ?_); (try simp only [Act.put, List.setIfInBounds_toArray, List.set_cons_zero, List.set_cons_succ]))
        (refine AnyS.take (i := 6) rfl (by kernel_rfl) (by kernel_rfl) (by kernel_rfl) (by rfl) (fun _ _ _ h => h) (by rfl) (by intro w; go_simp; with_reducible rfl) hU (fun hU => ?_); (try simp only [Act.put, List.setIfInBounds_toArray, List.set_cons_zero, List.set_cons_succ]); refine AnyS.take (i := 9) rfl (by kernel_rfl) (by kernel_rfl) (by kernel_rfl) (by rfl) (fun _ _ _ h => h) (by rfl) (by intro w; go_simp; with_reducible rfl) hU (fun hU => ?_); (try simp only [Act.put, List.setIfInBounds_toArray, List.set_cons_zero, List.set_cons_succ]); refine AnyS.take (i := 10) rfl (by kernel_rfl) (by kernel_rfl) (by kernel_rfl) (by rfl) (fun _ _ _ h => h) (by rfl) (by intro w; go_simp; with_reducible rfl) hU (fun hU => ?_); (try simp only [Act.put, List.setIfInBounds_toArray, List.set_cons_zero, List.set_cons_succ]); refine AnyS.take (i := 11) rfl (by kernel_rfl) (by kernel_rfl) (by kernel_rfl) (by rfl) (fun _ _ _ h => h) (by rfl) (by intro w; go_simp; with_reducible rfl) hU (fun hU => ?_); (try simp only [Act.put, List.setIfInBounds_toArray, List.set_cons_zero, List.set_cons_succ]))
        (refine AnyS.takeV [18] (i := 12) rfl (by kernel_rfl) (by kernel_rfl) (by kernel_rfl) (by rfl) (by kernel_rfl) (by kernel_rfl) (by kernel_rfl) (fun _ _ _ h => h) (by rfl) (by intro W hSw; have h1 := hSw.2.1; clear hSw; go_simp; with_reducible rfl) hU (fun hU => ?_); (try simp only [Act.put, List.setIfInBounds_toArray, List.set_cons_zero, List.set_cons_succ]))
        (refine AnyS.takeV [14, 15, 18] (i := 13) rfl (by kernel_rfl) (by kernel_rfl) (by kernel_rfl) (by rfl) (by kernel_rfl) (by kernel_rfl) (by kernel_rfl) (fun _ _ _ h => h) (by rfl) (fun W hW => run_ld Try.underlying29 rfl HIM.out (.tmp 5) rfl rfl hW.2.2) hU (fun hU => ?_); (try simp only [Act.put, List.setIfInBounds_toArray, List.set_cons_zero, List.set_cons_succ]))
        refine AnyS.branch (rs := [7, 14]) (by kernel_rfl) (by simp) (AllS.cons rfl (fun K hK => ?oA) (AllS.cons rfl (fun K hK => ?oB) AllS.nil))
        case' oA =>
          have hM7 : Mg _ _ _ ((W.heap.size, [Value.slice a wd.length c], 26) :: _) _ := hM6.alloc #[Value.slice a wd.length c] 26
          have hK7 := hK6.alloc (.cells #[Value.slice a wd.length c] 26)
          go_simp
          refine hK.out _ _ (.inl (HS3.out _ _ [_] hM7)) (fun hU => ?_)
          clear hK K hM6 hK6
          (try simp only [Act.put, List.setIfInBounds_toArray, List.set_cons_zero, List.set_cons_succ])
          generalize W.alloc (.cells #[Value.slice a wd.length c] 26) = W4 at *
          generalize W.heap.size = b7 at *
          refine AnyS.branch (rs := [8, 14]) (by kernel_rfl) (by simp) (AllS.cons rfl (fun K hK => ?oA1) (AllS.cons rfl (fun K hK => ?oA2) AllS.nil))
          case' oA1 =>
            refine Mg.appendQ (by rfl) (.tmp 39) (.tmp 41) 35 rfl hM7 1 rfl Try.underlying35 hi0 hz0 hz1 hz2 rfl (by decide) 0 rfl rfl rfl rfl (by simp [Value.oneCell']) (by omega) (by omega) (fun g8 c8 W5 hM8 hO8 hg8 hs8 => ?_)
            have hK8 := hK7.old1 hO8 hs8
            have HG8 : Hid (Value.ownBlock (.slice aw s.length cw) = some g8 ∨ w.heap.size ≤ g8) := hg8.imp id fun h => Nat.le_trans hK7.1 h
            (try simp only [List.set_cons_zero, List.set_cons_succ] at hM8)
            refine hK.out _ _ (.inl (HS3.out _ _ [_] hM8)) (fun hU => ?_)
            clear hK K hM7 hK7 hO8 hg8 hs8
            (try simp only [Act.put, List.setIfInBounds_toArray, List.set_cons_zero, List.set_cons_succ])
            (refine AnyS.branch (rs := [14]) (by kernel_rfl) (List.cons_ne_nil _ _) ?_; refine AllS.cons rfl ?_ AllS.nil; intro K hK)
            have hml := HML.out
            go_simp
            generalize hX : List.foldl _ _ M.cells.zipIdx = X
            have HX : Hid (X.toList = M.cells) := by
              show _ = _
              rw [← hX]; exact fold_zip (by rw [hml]; rfl)
            clear hX
            have hM9 := hM8.alloc X 29
            rw [HX.out] at hM9
            have hK9 := hK8.alloc (.cells X 29)
            refine hK.out _ _ (.inl (HS3.out _ _ [_, _] hM9)) (fun hU => ?_)
            clear hK K hM8 hK8 hml HX
            (try simp only [Act.put, List.setIfInBounds_toArray, List.set_cons_zero, List.set_cons_succ])
            generalize W5.alloc (.cells X 29) = W6 at *
            generalize W5.heap.size = b14 at *
            clear X
          case' oA2 =>
            have hml := HML.out
            go_simp
            generalize hX : List.foldl _ _ M.cells.zipIdx = X
            have HX : Hid (X.toList = M.cells) := by
              show _ = _
              rw [← hX]; exact fold_zip (by rw [hml]; rfl)
            clear hX
            have hM8 := hM7.alloc X 29
            rw [HX.out] at hM8
            have hK8 := hK7.alloc (.cells X 29)
            refine hK.out _ _ (.inl (HS3.out _ _ [_, _] hM8)) (fun hU => ?_)
            clear hK K hM7 hK7 hml HX
            (try simp only [Act.put, List.setIfInBounds_toArray, List.set_cons_zero, List.set_cons_succ])
            generalize W4.alloc (.cells X 29) = W5 at *
            generalize W4.heap.size = b14 at *
            clear X
            replace hM8 := hM8.permL (List.Perm.swap _ _ _)
        case' oB =>
          have hml := HML.out
          go_simp
          generalize hX : List.foldl _ _ M.cells.zipIdx = X
          have HX : Hid (X.toList = M.cells) := by
            show _ = _
            rw [← hX]; exact fold_zip (by rw [hml]; rfl)
          clear hX
          have hM7 := hM6.alloc X 29
          rw [HX.out] at hM7
          have hK7 := hK6.alloc (.cells X 29)
          refine hK.out _ _ (.inl (HS3.out _ _ [_] hM7)) (fun hU => ?_)
          clear hK K hM6 hK6 hml HX
          (try simp only [Act.put, List.setIfInBounds_toArray, List.set_cons_zero, List.set_cons_succ])
          generalize W.alloc (.cells X 29) = W4 at *
          generalize W.heap.size = b14 at *
          clear X
          (refine AnyS.branch (rs := [7]) (by kernel_rfl) (List.cons_ne_nil _ _) ?_; refine AllS.cons rfl ?_ AllS.nil; intro K hK)
          have hM8 : Mg _ _ _ ((W4.heap.size, [Value.slice a wd.length c], 26) :: _) _ := hM7.alloc #[Value.slice a wd.length c] 26
          have hK8 := hK7.alloc (.cells #[Value.slice a wd.length c] 26)
          go_simp
          refine hK.out _ _ (.inl (HS3.out _ _ [_, _] hM8)) (fun hU => ?_)
          clear hK K hM7 hK7
          (try simp only [Act.put, List.setIfInBounds_toArray, List.set_cons_zero, List.set_cons_succ])
          generalize W4.alloc (.cells #[Value.slice a wd.length c] 26) = W5 at *
          generalize W4.heap.size = b7 at *
        case' oA2 | oB =>
          (refine AnyS.branch (rs := [8]) (by kernel_rfl) (List.cons_ne_nil _ _) ?_; refine AllS.cons rfl ?_ AllS.nil; intro K hK)
          refine Mg.appendQ (by rfl) (.tmp 39) (.tmp 41) 35 rfl hM8 1 rfl Try.underlying35 hi0 hz0 hz1 hz2 rfl (by decide) 0 rfl rfl rfl rfl (by simp [Value.oneCell']) (by omega) (by omega) (fun g8 c8 W6 hM9 hO9 hg9 hs9 => ?_)
          have hK9 := hK8.old1 hO9 hs9
          have HG8 : Hid (Value.ownBlock (.slice aw s.length cw) = some g8 ∨ w.heap.size ≤ g8) := hg9.imp id fun h => Nat.le_trans hK8.1 h
          (try simp only [List.set_cons_zero, List.set_cons_succ] at hM9)
          refine hK.out _ _ (.inl (HS3.out _ _ [_, _] hM9)) (fun hU => ?_)
          clear hK K hM8 hK8 hO9 hg9 hs9
          (try simp only [Act.put, List.setIfInBounds_toArray, List.set_cons_zero, List.set_cons_succ])
          replace hM9 := hM9.permL (List.Perm.swap _ _ _)
        all_goals
          (refine AnyS.branch (rs := [15]) (by kernel_rfl) (List.cons_ne_nil _ _) ?_; refine AllS.cons rfl ?_ AllS.nil; intro K hK)
          refine Mg.appendQ (by rfl) (.tmp 46) (.tmp 48) 85 rfl hM9 2 rfl Try.underlying85 hj0 hy0 hy1 rfl hy2 (by decide) 0 rfl HML.out rfl rfl HOM.out (by omega) hy3 (fun g9 c9 W7 hM10 hO10 hg10 hs10 => ?_)
          have hK10 := hK9.old2 hO10 hs10
          have HG9 : Hid (Value.ownBlock (.slice am s.length cm) = some g9 ∨ w.heap.size ≤ g9) := hg10.imp id fun h => Nat.le_trans hK9.1 h
          (try simp only [List.set_cons_zero, List.set_cons_succ] at hM10)
          refine hK.out _ _ (.inl (HS3.out _ _ [_, _] hM10)) (fun hU => ?_)
          clear hK K hM9 hK9 hO10 hg10 hs10
          (try simp only [Act.put, List.setIfInBounds_toArray, List.set_cons_zero, List.set_cons_succ])
          have hM11 := hM10.sub (L' := [(b, bcell G ga ng gc (.slice aw s.length cw) (.slice am s.length cm) f vs, 97)]) ((List.sublist_cons_self _ _).trans ((List.sublist_cons_self _ _).trans (List.sublist_cons_self _ _)))
          have hM12 := hM11.permG (ballG_new (M := M) HRW.out)
          have HHD : Hid (∀ gw xs, Hdr w b (.slice aw s.length cw) (.slice am s.length cm) s.length gw xs → Hdr W7 b (.slice (some ⟨g8, 0, none⟩) (s.length + 1) c8) (.slice (some ⟨g9, 0, none⟩) (s.length + 1) c9) (s ++ [(wd, M)]).length gw xs) := fun gw xs h => h.keep hK10 (by simp) (HG8.out.imp (fun h => h.symm) (fun h => ⟨g8, rfl, h⟩)) (HG9.out.imp (fun h => h.symm) (fun h => ⟨g9, rfl, h⟩))
          clear hM10 hM11 hK10
          (refine AnyS.take (i := 16) rfl (by kernel_rfl) (by kernel_rfl) (by kernel_rfl) (by rfl) (fun _ _ _ h => h) (by rfl) (by intro w; go_simp; with_reducible rfl) hU (fun hU => ?_); (try simp only [Act.put, List.setIfInBounds_toArray, List.set_cons_zero, List.set_cons_succ]); refine AnyS.take (i := 17) rfl (by kernel_rfl) (by kernel_rfl) (by kernel_rfl) (by rfl) (fun _ _ _ h => h) (by rfl) (by intro w; go_simp; with_reducible rfl) hU (fun hU => ?_); (try simp only [Act.put, List.setIfInBounds_toArray, List.set_cons_zero, List.set_cons_succ]))
          have d1 := (hM12.at 0 rfl).cell' (i := 2) rfl
          have f1 := (hM12.at 0 rfl).free 2
          have hM13 := hM12.setCell 0 rfl 2 (.slice (some ⟨g8, 0, none⟩) (s.length + 1) c8)
          have HHD2 : Hid (∀ gw xs, Hdr w b (.slice aw s.length cw) (.slice am s.length cm) s.length gw xs → Hdr (W7.setCell ⟨b, 2, none⟩ (.slice (some ⟨g8, 0, none⟩) (s.length + 1) c8)) b (.slice (some ⟨g8, 0, none⟩) (s.length + 1) c8) (.slice (some ⟨g9, 0, none⟩) (s.length + 1) c9) (s ++ [(wd, M)]).length gw xs) := fun gw xs h => (HHD.out gw xs h).other _ _
          (refine AnyS.branch (rs := [18]) (by kernel_rfl) (List.cons_ne_nil _ _) ?_; refine AllS.cons rfl ?_ AllS.nil; intro K hK)
          go_simp
          refine hK.out _ _ (.inr ⟨18, by simp, by rfl⟩) (fun hU => ?_)
          clear hK K d1 f1 hM12
          (try simp only [Act.put, List.setIfInBounds_toArray, List.set_cons_zero, List.set_cons_succ])
          generalize W7.setCell ⟨b, 2, none⟩ (.slice (some ⟨g8, 0, none⟩) (s.length + 1) c8) = W8 at *
          (refine AnyS.take (i := 19) rfl (by kernel_rfl) (by kernel_rfl) (by kernel_rfl) (by rfl) (fun _ _ _ h => h) (by rfl) (by intro w; go_simp; with_reducible rfl) hU (fun hU => ?_); (try simp only [Act.put, List.setIfInBounds_toArray, List.set_cons_zero, List.set_cons_succ]); refine AnyS.take (i := 20) rfl (by kernel_rfl) (by kernel_rfl) (by kernel_rfl) (by rfl) (fun _ _ _ h => h) (by rfl) (by intro w; go_simp; with_reducible rfl) hU (fun hU => ?_); (try simp only [Act.put, List.setIfInBounds_toArray, List.set_cons_zero, List.set_cons_succ]))
          have d1 := (hM13.at 0 rfl).cell' (i := 3) rfl
          have f1 := (hM13.at 0 rfl).free 3
          have HM14 : Hid (Mg w0.heap.size w0 (W8.setCell ⟨b, 3, none⟩ (.slice (some ⟨g9, 0, none⟩) (s.length + 1) c9)) [(b, bcell G ga ng gc (.slice (some ⟨g8, 0, none⟩) (s.length + 1) c8) (.slice (some ⟨g9, 0, none⟩) (s.length + 1) c9) f vs, 97)] (ballG (s ++ [(wd, M)]) (.slice (some ⟨g8, 0, none⟩) (s.length + 1) c8) (rw ++ [.slice a wd.length c]) (.slice (some ⟨g9, 0, none⟩) (s.length + 1) c9) vs st ++ GR)) := hM13.setCell 0 rfl 3 (.slice (some ⟨g9, 0, none⟩) (s.length + 1) c9)
          have HHD3 : Hid (∀ gw xs, Hdr w b (.slice aw s.length cw) (.slice am s.length cm) s.length gw xs → Hdr (W8.setCell ⟨b, 3, none⟩ (.slice (some ⟨g9, 0, none⟩) (s.length + 1) c9)) b (.slice (some ⟨g8, 0, none⟩) (s.length + 1) c8) (.slice (some ⟨g9, 0, none⟩) (s.length + 1) c9) (s ++ [(wd, M)]).length gw xs) := fun gw xs h => (HHD2.out gw xs h).other _ _
          (refine AnyS.branch (rs := [21]) (by kernel_rfl) (List.cons_ne_nil _ _) ?_; refine AllS.cons rfl ?_ AllS.nil; intro K hK)
          go_simp
          refine hK.out _ _ (.inr ⟨18, by simp, by rfl⟩) (fun hU => ?_)
          clear hK K d1 f1 hM13
          (try simp only [Act.put, List.setIfInBounds_toArray, List.set_cons_zero, List.set_cons_succ])
          refine AnyS.done (by kernel_rfl) ?_ _
          clear hU
          go_wp2_with fail
          go_ret
          rw [HP.out]
          exact ⟨rfl, _, _, _, (by rw [List.length_append, List.length_append, HRW.out]; rfl), ⟨_, rfl⟩, HM14.out, HHD3.out⟩
end Go.Proofs.Yteagecoiijhflaa

/- (*ball).grow of the program. -/
namespace Go.Proofs.Yteagecoiijhflaa
open Go.RowKit
set_option linter.unusedVariables false
set_option linter.unusedSimpArgs false

theorem putB_err {m : Mch} {s : Bs} {w : Wd} {c : Int} (h : putB m s w = .error c) : c = 3 := by
  cases hp : mwR m w with
  | none => rw [putB_none hp] at h; cases h; rfl
  | some M =>
    by_cases h1 : 0 ≤ posM (s.map (·.2)) M
    · rw [putB_old hp h1] at h; cases h
    · by_cases h2 : s.length = 200
      · rw [putB_full hp h1 h2] at h; cases h; rfl
      · rw [putB_new hp h1 h2] at h; cases h
theorem growS_code {m : Mch} (l : List Wd) : ∀ (s : Bs) {c : Int}, growS m l (.ok s) = .error c → c = 3 := by
  induction l with
  | nil => intro s c h; rw [growS_nil] at h; cases h
  | cons w l ih =>
    intro s c h
    rw [growS_cons] at h
    cases hp : putB m s w with
    | error d => rw [hp, growS_err] at h; cases h; exact putB_err hp
    | ok s1 => rw [hp] at h; exact ih s1 h
/-- the words asked before the number k of the word number i -/
def askP (gs : List Int) (ws : List Wd) (i k : Nat) : List Wd := askG gs (ws.take i) ++ (gs.take k).map fun x => ws[i]?.getD [] ++ [x]
theorem askP_zero (gs : List Int) (ws : List Wd) (i : Nat) : askP gs ws i 0 = askG gs (ws.take i) := by simp [askP]
theorem askP_row (gs : List Int) (ws : List Wd) {i : Nat} (h : i < ws.length) : askP gs ws i gs.length = askG gs (ws.take (i + 1)) := by
  rw [askP, List.take_length, askG, askG, List.take_add_one, List.flatMap_append, List.getElem?_eq_getElem h]
  simp [extG]
theorem askP_next (gs : List Int) (ws : List Wd) (i : Nat) {k : Nat} (h : k < gs.length) : askP gs ws i (k + 1) = askP gs ws i k ++ [ws[i]?.getD [] ++ [gs[k]?.getD 0]] := by
  rw [askP, askP, List.take_add_one, List.map_append, List.getElem?_eq_getElem h]
  simp
theorem askP_all (gs : List Int) (ws : List Wd) {i : Nat} (h : i < ws.length) (k : Nat) : ∃ R, askG gs ws = askP gs ws i k ++ R := by
  refine ⟨(gs.drop k).map (fun x => ws[i]?.getD [] ++ [x]) ++ askG gs (ws.drop (i + 1)), ?_⟩
  rw [askP, List.append_assoc, ← List.append_assoc (List.map _ _), ← List.map_append, List.take_append_drop]
  conv => lhs; rw [← List.take_append_drop i ws, askG, List.flatMap_append]
  rw [List.drop_eq_getElem_cons h, List.flatMap_cons, List.getElem?_eq_getElem h]
  rfl
def RetG (w0 : World) (b G : Nat) (ga : Option Addr) (ng gc : Nat) (cs : List Nat) (GR : List Gr) (n : Nat) (r : Except Int Bs) (e : Ending) (w' : World) : Prop := match r with
  | .error c => e = .returned (.int .i64 c) ∧ Below w0.heap.size w0 w'
  | .ok s' => e = .returned (.int .i64 0) ∧ ∃ vw' vm' vs' rw', rw'.length = s'.length ∧ Mg w0.heap.size w0 w' [(b, bcell G ga ng gc vw' vm' n vs', 97)] (ballG s' vw' rw' vm' vs' (cs ++ [s'.length - n]) ++ GR)
theorem Hdr.below {w w' : World} {b gw n : Nat} {vw vm : Value} {xs : List Value} (h : Hdr w b vw vm n gw xs) (hb : Below w.heap.size w w') : Hdr w' b vw vm n gw xs := h.keep ((KeepR.refl _ _ _ _).below hb) (Nat.le_refl _) (.inl rfl) (.inl rfl)
theorem Hdr.old {w w' : World} {b gw n nn z : Nat} {vw vm v : Value} {xs : List Value} (h : Hdr w b vw vm n gw xs) (ho : Old w w' v nn z) (hv : v.ownBlock ≠ some gw) (hs : 0 < xs.length) : Hdr w' b vw vm n gw xs := by
  have hc : ∀ (j : Nat) (u : Value), xs[j]? = some u → w'.cell? ⟨gw, j, none⟩ = some u := fun j u hj => ho gw j u (h.cell j u hj) fun e => absurd e hv
  exact ⟨hc, h.len, h.vm, h.ne, World.block_lt_of_cell? _ _ (hc 0 _ (List.getElem?_eq_getElem hs))⟩
theorem Mg.hdr {B : Nat} {w0 w : World} {b gw cw : Nat} {cl : List Value} {T : TypeId} {s : Bs} {vm vs : Value} {rw : List Value} {cs : List Nat} {GR : List Gr} (h : Mg B w0 w [(b, cl, T)] (ballG s (.slice (some ⟨gw, 0, none⟩) s.length cw) rw vm vs cs ++ GR)) (hl : rw.length = s.length) :
    Hdr w b (.slice (some ⟨gw, 0, none⟩) s.length cw) vm s.length gw rw := by
  refine ⟨fun j v hj => h.cellAt (i := 0) rfl hj, fun _ => Nat.le_of_eq hl, fun e => ?_, fun e => ?_, ?_⟩
  · have hd := h.gdist
    rw [ballG, List.cons_append, List.pairwise_cons] at hd
    exact hd.1 ⟨vm, 29, 98, s.length, cellsM (s.map (·.2))⟩ (by simp) gw rfl e
  · exact h.sep ⟨.slice (some ⟨gw, 0, none⟩) s.length cw, 26, 1, s.length, rw⟩ (by simp [ballG]) (b, cl, T) (by simp) (by simp only [Value.ownBlock, e])
  · exact h.ownlt (x := ⟨.slice (some ⟨gw, 0, none⟩) s.length cw, 26, 1, s.length, rw⟩) (by simp [ballG]) rfl
/-- the row of a word of the ball -/
theorem ball_row {s : Bs} {vw vm vs : Value} {rw : List Value} {cs : List Nat} {GR : List Gr} (hl : rw.length = s.length) {i : Nat} (hi : i < s.length) :
    (ballG s vw rw vm vs cs ++ GR)[i + 3]? = some ⟨rw[i]?.getD undef, 2, 1, ((s[i]?.map (·.1)).getD []).length, i64s ((s[i]?.map (·.1)).getD [])⟩ := by
  have h := rowG_get (rv := rw) (rows := s.map (·.1)) (by rw [hl, List.length_map]) (i := i) (by rw [List.length_map]; exact hi)
  have h2 : i < ((rowG rw (s.map (·.1))).map Gr.of).length := by simp [rowG, hl, hi]
  simp only [ballG, List.cons_append, List.getElem?_cons_succ]
  rw [List.getElem?_append_left h2, List.getElem?_map, h, List.getElem?_map]
  simp [Gr.of, i64s]
theorem Mg.wordAt {B : Nat} {w0 w : World} {L : List (Nat × List Value × TypeId)} {s : Bs} {vw vm vs : Value} {rw : List Value} {cs : List Nat} {GR : List Gr} (h : Mg B w0 w L (ballG s vw rw vm vs cs ++ GR)) (hl : rw.length = s.length) {i : Nat} (hi : i < s.length) :
    OwnI w B (rw[i]?.getD undef) ((s[i]?.map (·.1)).getD []) := h.row (i + 3) (ball_row hl hi)
theorem info_i64 : ∃ i0 z, Try.prog.info? 2 = some i0 ∧ i0.zero = some z ∧ i0.size = 1 ∧ z.cells.size = 1 ∧ i0.bytes ≤ 1000 := by
  obtain ⟨i0, h1, h2, h3, h4⟩ := info_parts Try.info2
  exact ⟨i0, _, h1, h2, h3, rfl, by omega⟩

theorem Mg.room {B : Nat} {w0 w : World} {L : List (Nat × List Value × TypeId)} {G : List Gr} (h : Mg B w0 w L G) (i : Nat) {v : Value} {E z n : Nat} {xs : List Value} (hi : G[i]? = some ⟨v, E, z, n, xs⟩) (hn : 0 < n) : ∃ g c, v = .slice (some ⟨g, 0, none⟩) n c ∧ n ≤ c ∧ c ≤ maxLen ∧ B ≤ g ∧ g < w.heap.size := by
  have ho := h.row i hi
  simp only at ho
  rcases ho.2 with ⟨_, h0⟩ | ⟨g, cap, cur, hv, hb, hg, h1, h2, -⟩
  · omega
  · exact ⟨g, cap, hv, h1, h2, hb, (Array.getElem?_eq_some_iff.1 hg).1⟩
set_option maxRecDepth 100000 in
set_option maxHeartbeats 4000000 in
theorem grow_any (m : Mch) (hwf : m.Wf) (hok : m.Ok) (G : Nat) (w0 : World) (hG : GrpR w0 G m) (b : Nat) (ga : Option Addr) (gc f : Nat) (gs : List Int) (hgs : GW m gs) (h8 : gs.length ≤ 32) (hI : IntsAt w0 ga gs) (vw vm vs : Value) (rw : List Value) (cs : List Nat) (s : Bs) (GR : List Gr) (n : Nat) (hn : n ≤ 900)
    (hBs : BsOk m n s) (h1 : 1 ≤ s.length) (hf : f ≤ s.length) (hcs : cs.length ≤ 1000) (hrw : rw.length = s.length) (w : World)
    (hM : Mg w0.heap.size w0 w [(b, bcell G ga gs.length gc vw vm f vs, 97)] (ballG s vw rw vm vs cs ++ GR)) :
    Calls Try.prog 115 #[.pointer (some ⟨b, 0, none⟩)] w (RetG w0 b G ga gs.length gc cs GR s.length (growS m (askG gs ((s.map (·.1)).drop f)) (.ok s))) := by
  have HMX := Lib.hid (show Try.prog.follows .mixedOrders = true by kernel_rfl)
  have HGS := Lib.hid hgs
  have HBS := Lib.hid hBs
  have HRW := Lib.hid hrw
  have HI := Lib.hid hI
  have HGR := Lib.hid hG
  have HM0 := Lib.hid hM
  have hs2 := hBs.many
  have c2 := (hM.at 0 rfl).cell' (i := 2) rfl
  have c4 := (hM.at 0 rfl).cell' (i := 4) rfl
  obtain ⟨gw, cw, rfl, hcw, hcm, hgB, hgl⟩ := hM.room 0 (v := vw) rfl (by omega)
  clear hgs hBs hrw hI hG hM
  go_enter Try.func115, Try.ntmps115
  go_wp2_with fail
  go_quiet (fail)
  go_wp2_with fail
  case' inl =>
    have HS0 : Hid (growS m (askG gs ((s.map (·.1)).drop f)) (.ok s) = .ok s) := by
      show _ = _
      rw [List.drop_of_length_le (by rw [List.length_map]; omega)]
      exact growS_nil m _
    have e0 : s.length - f = 0 := by omega
    clear c2 c4
    rw [e0]
    go_loopw [27] (fun iv wr => iv = .int .i64 0 ∧ Mg w0.heap.size w0 wr [(b, bcell G ga gs.length gc (.slice (some ⟨gw, 0, none⟩) s.length cw) vm f vs, 97)] (ballG s (.slice (some ⟨gw, 0, none⟩) s.length cw) rw vm vs cs ++ GR)) (fun _ _ => 0)
    case atStart => exact ⟨rfl, HM0.out.drewN _⟩
    case' round =>
      obtain ⟨rfl, hM⟩ := hrel
      have j1 : ¬ ((0 : Int) < ((0 : Nat) : Int)) := by omega
      obtain ⟨si, vwi, vmi, rwi, HST, HLT, HMT, hsi, hm2⟩ : ∃ (si : Bs) (vwi vmi : Value) (rwi : List Value), Hid (growS m (askG gs ((s.map (·.1)).drop f)) (.ok s) = .ok si) ∧ Hid (rwi.length = si.length) ∧ Hid (Mg w0.heap.size w0 wr [(b, bcell G ga gs.length gc vwi vmi f vs, 97)] (ballG si vwi rwi vmi vs cs ++ GR)) ∧ s.length ≤ si.length ∧ si.length ≤ 200 := ⟨s, _, _, rw, HS0.out, HRW.out, hM, Nat.le_refl _, HBS.out.many⟩
      clear hM
      clear HM0 HS0
  case' inr =>
    obtain ⟨ws, hws⟩ : ∃ ws, ws = (s.map (·.1)).drop f := ⟨_, rfl⟩
    have HWL : Hid (ws.length = s.length - f) := by show _ = _; rw [hws, List.length_drop, List.length_map]
    have HWA : Hid (∀ i, i < s.length - f → ws[i]?.getD [] = (s[f + i]?.map (·.1)).getD []) := fun i hi => by rw [hws, List.getElem?_drop, List.getElem?_map]
    have HWS := Lib.hid hws
    have HAL : Hid (∀ {i}, i < ws.length → ∀ k, ∃ R, askG gs ws = askP gs ws i k ++ R) := fun h k => askP_all gs ws h k
    have HM1 : Hid (∀ d, Mg w0.heap.size w0 (w.drewN d) [(b, bcell G ga gs.length gc (.slice (some ⟨gw, 0, none⟩) s.length cw) vm f vs, 97)] (ballG s (.slice (some ⟨gw, 0, none⟩) s.length cw) rw vm vs cs ++ GR)) := fun d => HM0.out.drewN d
    have HASK : Hid (∀ w ∈ askG gs ws, GW m w ∧ w.length ≤ n + 1) := by
      show ∀ w ∈ _, _
      rw [hws]; exact ask_ok HGS.out HBS.out f
    clear c2 c4 hws HM0
    go_loopw [27] (fun iv wr => ∃ (i : Nat) (si : Bs) (vwi vmi : Value) (rwi : List Value), i ≤ s.length - f ∧ iv = .int .i64 (i : Int) ∧ Hid (growS m (askG gs (ws.take i)) (.ok s) = .ok si) ∧ Hid (rwi.length = si.length) ∧ Hid (∃ R, rwi = rw ++ R) ∧
      Mg w0.heap.size w0 wr [(b, bcell G ga gs.length gc vwi vmi f vs, 97)] (ballG si vwi rwi vmi vs cs ++ GR) ∧ Hid (Hdr wr b vwi vmi si.length gw rw)) (fun i _ => s.length - f - (intOf i).toNat)
    case atStart => exact ⟨0, s, _, _, rw, Nat.zero_le _, rfl, growS_nil m _, HRW.out, ⟨[], (List.append_nil _).symm⟩, HM1.out _, (HM1.out _).hdr HRW.out⟩
    case' round =>
      clear HM1
      obtain ⟨i, si, vwi, vmi, rwi, hi, rfl, HS, HL, HP, hM, HH⟩ := hrel
      have ei : IntKind.i64.wrap ((i : Int) + 1) = (i : Int) + 1 := IntWalk.i64_in _ (by omega)
      by_cases hlt : i < s.length - f
      case' pos =>
        have hfi : f + i < s.length := by omega
        have hx := HWA.out i hlt
        have HX : Hid (GW m (ws[i]?.getD []) ∧ (ws[i]?.getD []).length ≤ n) := by
          show _ ∧ _
          rw [hx, List.getElem?_eq_getElem hfi, Option.map_some, Option.getD_some]
          exact ⟨HBS.out.gw _ (List.getElem_mem hfi), HBS.out.len _ (List.getElem_mem hfi)⟩
        obtain ⟨r, hr⟩ : ∃ r, rw[f + i]? = some r := ⟨_, List.getElem?_eq_getElem (by rw [HRW.out]; exact hfi)⟩
        have HRO : Hid (∀ W L sj vwj rwj vmj, Mg w0.heap.size w0 W L (ballG sj vwj rwj vmj vs cs ++ GR) → rwj.length = sj.length → (∃ R, rwj = rw ++ R) → (∃ R, sj = s ++ R) → OwnI W w0.heap.size r (ws[i]?.getD [])) := by
          rintro W L sj vwj rwj vmj h hl ⟨R, rfl⟩ ⟨R2, rfl⟩
          have h1 := h.wordAt hl (i := f + i) (by rw [List.length_append]; omega)
          rw [List.getElem?_append_left (by rw [HRW.out]; exact hfi), hr, List.getElem?_append_left hfi, ← hx] at h1
          exact h1
        obtain ⟨ar, cr, rfl, -⟩ := (HRO.out wr _ si _ rwi _ hM HL.out HP.out (growS_pre _ _ _ HS.out)).form
        have c1 := HH.out.cell _ _ hr
        have c11 := (hM.at 0 rfl).cell' (i := 1) rfl
        have i1 : (0 : Int) ≤ (i : Int) := by omega
        have i2 : (i : Int) < ((s.length - f : Nat) : Int) := by omega
        have HAR := Lib.hid (askP_row gs ws (i := i) (by rw [HWL.out]; exact hlt))
        have HAN := Lib.hid (fun k hk => askP_next gs ws i (k := k) hk)
        have HAL2 := Lib.hid (HAL.out (i := i) (by rw [HWL.out]; exact hlt))
        have HS2 : Hid (growS m (askP gs ws i 0) (.ok s) = .ok si) := by show _ = _; rw [askP_zero]; exact HS.out
        have hxn := HX.out.2
        have HM := Lib.hid hM
        generalize ws[i]?.getD [] = x at *
        clear hM hx hr HS
        have hal := HAL2.out
        clear hal
        go_wp2_with fail
        go_loopw [36] (fun kv wk => ∃ (k : Nat) (sj : Bs) (vwj vmj : Value) (rwj : List Value), k ≤ gs.length ∧ kv = .int .i64 (k : Int) ∧ Hid (growS m (askP gs ws i k) (.ok s) = .ok sj) ∧ Hid (rwj.length = sj.length) ∧ Hid (∃ R, rwj = rw ++ R) ∧
          Mg w0.heap.size w0 wk [(b, bcell G ga gs.length gc vwj vmj f vs, 97)] (ballG sj vwj rwj vmj vs cs ++ GR) ∧ Hid (Hdr wk b vwj vmj sj.length gw rw)) (fun k _ => gs.length - (intOf k).toNat)
        case atStart => exact ⟨0, si, _, _, rwi, Nat.zero_le _, rfl, HS2.out, HL.out, HP.out, HM.out, HH.out⟩
        case round =>
          clear HM HS2 HL HP HH c1 c11
          obtain ⟨k, sj, vwj, vmj, rwj, hk, rfl, HS, HL, HP, hM, HH⟩ := hrel
          have ek : IntKind.i64.wrap ((k : Int) + 1) = (k : Int) + 1 := IntWalk.i64_in _ (by omega)
          by_cases hkl : k < gs.length
          · obtain ⟨bb, off, rfl, c1⟩ := HI.out k hkl
            have c1 := (hM.below.cell (World.block_lt_of_cell? _ _ c1)).trans c1
            have k1 : (0 : Int) ≤ (k : Int) := by omega
            have k2 : (k : Int) < (gs.length : Int) := by omega
            have hkm : gs[k]?.getD 0 ∈ gs := by rw [List.getElem?_eq_getElem hkl, Option.getD_some]; exact List.getElem_mem hkl
            have HKM : Hid (gs[k]?.getD 0 ≠ 0 ∧ -(m.s : Int) ≤ gs[k]?.getD 0 ∧ gs[k]?.getD 0 ≤ m.s) := HGS.out _ hkm
            have HAK := Lib.hid (HAN.out k hkl)
            have HAK2 := Lib.hid (HAL2.out (k + 1))
            have HCL := Lib.hid (clone_any _ x (by omega) _ wr (HRO.out wr _ sj _ rwj _ hM HL.out HP.out (growS_pre _ _ _ HS.out)))
            have HM := Lib.hid hM
            generalize gs[k]?.getD 0 = y at *
            have HXY : Hid (GW m (x ++ [y])) := gw_app HX.out.1 fun p hp => by rw [List.mem_singleton.1 hp]; exact HKM.out
            clear hM hkm
            go_wp2_with fail
            refine HCL.out.mono ?_
            rintro e w5 ⟨v5, rfl, hb5, hO5⟩
            have hM5 := HM.out.callOwn hb5 hO5
            have HH5 := Lib.hid (HH.out.below hb5)
            have HV5 : Hid (v5.ownBlock ≠ some gw) := fun e => by
              have h1 := (World.ownsRow.lt hO5 gw e).1
              have h2 := HH.out.lt
              omega
            obtain ⟨i0, iz, hi0, hz0, hz1, hz2, hz3⟩ := info_i64
            clear HCL HM hb5 hO5 c1
            go_wp2_with (at_builtin; refine Mg.appendO rfl (.tmp 42) (.tmp 44) 26 rfl hM5 0 rfl Try.underlying26 hi0 hz0 hz1 rfl hz2 (by decide) [.int .i64 y] (us := #[_]) rfl rfl rfl w5.heap.size rfl rfl (by simp [Value.oneCell']) (by omega) hz3 ?_)
            intro g6 c6 w6 hM6 hO6
            (try simp only [List.set_cons_zero] at hM6)
            have e6 : (x ++ [y]).length = x.length + 1 := by simp
            have hM7 : Mg w0.heap.size w0 w6 [(b, bcell G (some ⟨bb, off, none⟩) gs.length gc vwj vmj f vs, 97)] (⟨.slice (some ⟨g6, 0, none⟩) (x ++ [y]).length c6, 2, 1, (x ++ [y]).length, i64s (x ++ [y])⟩ :: (ballG sj vwj rwj vmj vs cs ++ GR)) := by
              rw [e6, show i64s (x ++ [y]) = i64s x ++ [.int .i64 y] by simp [i64s]]
              exact hM6
            have HH6 := Lib.hid (HH5.out.old hO6 HV5.out (by rw [HRW.out]; exact h1))
            have hBj : BsOk m (n + 1) sj := BsOk.grow _ _ _ (HBS.out.less (Nat.le_succ n)) (fun w hw => HASK.out w (by obtain ⟨R, hR⟩ := HAL2.out k; rw [hR]; exact List.mem_append_left _ hw)) HS.out
            have HPU := Lib.hid (put_any m hwf hok G w0 HGR.out b (some ⟨bb, off, none⟩) gs.length gc f vwj vmj vs rwj cs sj GR (some ⟨g6, 0, none⟩) (x ++ [y]) c6 HXY.out (by omega) (hBj.wf hok hwf) hBj.many HL.out w6 hM7)
            rw [e6] at HPU
            clear hM5 hM6 hM7 hO6 HH5 HV5 hi0 hz0 hz1 hz2 hz3
            go_wp2_with fail
            refine HPU.out.mono ?_
            intro e w7 hR7
            cases hp : putB m sj (x ++ [y]) with
            | error c =>
              rw [hp] at hR7
              obtain ⟨rfl, hb7⟩ := hR7
              have HER : Hid (growS m (askG gs ((s.map (·.1)).drop f)) (.ok s) = .error c) := by
                show _ = _
                obtain ⟨R, hR⟩ := HAK2.out
                rw [← HWS.out, hR, HAK.out, growS_app, growS_app, HS.out, growS_one, hp, growS_err]
              obtain rfl := putB_err hp
              clear HPU hp hBj
              go_wp2_with fail
              go_ret
              rw [HER.out]
              exact ⟨rfl, hb7⟩
            | ok s7 =>
              rw [hp] at hR7
              obtain ⟨rfl, vw7, vm7, rw7, hl7, hp7, hM7, hH7⟩ := hR7
              have HS7 : Hid (growS m (askP gs ws i (k + 1)) (.ok s) = .ok s7) := by
                show _ = _
                rw [HAK.out, growS_app, HS.out, growS_one, hp]
              have HL7 := Lib.hid hl7
              have HP7 : Hid (∃ R, rw7 = rw ++ R) := by
                obtain ⟨R1, h1⟩ := HP.out
                obtain ⟨R2, h2⟩ := hp7
                exact ⟨R1 ++ R2, by rw [h2, h1, List.append_assoc]⟩
              have HM7 := Lib.hid hM7
              have HH7 := Lib.hid (hH7 gw rw HH6.out)
              clear HPU hp hBj hM7 hH7 hl7 hp7 HH6
              go_wp2_with fail
              go_roundw
              case rel => exact ⟨k + 1, s7, vw7, vm7, rw7, by omega, by go_num, HS7.out, HL7.out, HP7.out, HM7.out, HH7.out⟩
              case measure => simp [intOf] <;> omega
          · have hk' : k = gs.length := by omega
            have k2 : ¬ ((k : Int) < (gs.length : Int)) := by omega
            have HS3 : Hid (growS m (askG gs (ws.take (i + 1))) (.ok s) = .ok sj) := by show _ = _; rw [← HAR.out, ← hk']; exact HS.out
            have HM := Lib.hid hM
            clear hM hk'
            go_wp2_with fail
            go_roundw
            case rel => exact ⟨i + 1, sj, vwj, vmj, rwj, by omega, by go_num, HS3.out, HL.out, HP.out, HM.out, HH.out⟩
            case measure => simp [intOf] <;> omega
      case' neg =>
        have hi' : i = s.length - f := by omega
        subst hi'
        have hBj : BsOk m (n + 1) si := BsOk.grow _ _ _ (HBS.out.less (Nat.le_succ n)) (fun w hw => HASK.out w (by rw [← HWL.out, List.take_length] at hw; exact hw)) HS.out
        have HS9 : Hid (growS m (askG gs ((s.map (·.1)).drop f)) (.ok s) = .ok si) := by show _ = _; rw [← HWS.out]; have := HS.out; rw [← HWL.out, List.take_length] at this; exact this
        have hsi9 : s.length ≤ si.length := by obtain ⟨R, rfl⟩ := growS_pre _ _ _ HS.out; rw [List.length_append]; omega
        have hm9 := hBj.many
        obtain ⟨si, vwi, vmi, rwi, HST, HLT, HMT, hsi, hm2⟩ : ∃ (si : Bs) (vwi vmi : Value) (rwi : List Value), Hid (growS m (askG gs ((s.map (·.1)).drop f)) (.ok s) = .ok si) ∧ Hid (rwi.length = si.length) ∧ Hid (Mg w0.heap.size w0 wr [(b, bcell G ga gs.length gc vwi vmi f vs, 97)] (ballG si vwi rwi vmi vs cs ++ GR)) ∧ s.length ≤ si.length ∧ si.length ≤ 200 := ⟨si, vwi, vmi, rwi, HS9, HL.out, hM, hsi9, hm9⟩
        have j1 : ¬ (((s.length - f : Nat) : Int) < ((s.length - f : Nat) : Int)) := by omega
        clear hM HS HL HP HH hBj HS9 hsi9 hm9
  all_goals
    have ed : IntKind.i64.wrap ((si.length : Int) - (s.length : Int)) = ((si.length - s.length : Nat) : Int) := by rw [IntWalk.i64_in _ (by omega)]; omega
    have hM := HMT.out
    have d1 := (hM.at 0 rfl).cell' (i := 4) rfl
    have f1 := (hM.at 0 rfl).free 4
    have hM2 := hM.setCell 0 rfl 4 (.int .i64 (s.length : Int))
    obtain ⟨aw, cw2, rfl⟩ := hM.sl 0 (v := vwi) rfl
    have HM2 : Hid (Mg w0.heap.size w0 (wr.setCell ⟨b, 4, none⟩ (.int .i64 (s.length : Int))) [(b, bcell G ga gs.length gc (.slice aw si.length cw2) vmi s.length vs, 97)] (⟨.slice aw si.length cw2, 26, 1, si.length, rwi⟩ :: ⟨vmi, 29, 98, si.length, cellsM (si.map (·.2))⟩ :: ⟨vs, 2, 1, cs.length, i64s (natsI cs)⟩ :: ((rowG rwi (si.map (·.1))).map Gr.of ++ GR))) := hM2
    clear hM hM2 HMT
    go_wp2_with fail
    clear d1 f1
    obtain ⟨i0, iz, hi0, hz0, hz1, hz2, hz3⟩ := info_i64
    have HM3 : Hid (Mg w0.heap.size w0 (wr.setCell ⟨b, 4, none⟩ (.int .i64 (s.length : Int))).drew [(b, bcell G ga gs.length gc (.slice aw si.length cw2) vmi s.length vs, 97)] (⟨.slice aw si.length cw2, 26, 1, si.length, rwi⟩ :: ⟨vmi, 29, 98, si.length, cellsM (si.map (·.2))⟩ :: ⟨vs, 2, 1, cs.length, i64s (natsI cs)⟩ :: ((rowG rwi (si.map (·.1))).map Gr.of ++ GR))) := HM2.out.drewN 1
    clear HM2
    have HS3 : Hid (∀ W L' G', Mg w0.heap.size w0 W (L' ++ [(b, bcell G ga gs.length gc (.slice aw si.length cw2) vmi s.length vs, 97)]) G' → W.cell? ⟨b, 5, none⟩ = some vs ∧ W.cell? ⟨b, 2, none⟩ = some (.slice aw si.length cw2)) := fun W L' G' h => by
      have h := h.sub (List.sublist_append_right _ _)
      exact ⟨(h.at 0 rfl).cell' (i := 5) rfl, (h.at 0 rfl).cell' (i := 2) rfl⟩
    refine region_A (fun W => W.cell? ⟨b, 5, none⟩ = some vs ∧ W.cell? ⟨b, 2, none⟩ = some (.slice aw si.length cw2)) [16] 17 (fun W => Mg w0.heap.size w0 W [(b, bcell G ga gs.length gc (.slice aw si.length cw2) vmi s.length vs, 97)] (⟨.slice aw si.length cw2, 26, 1, si.length, rwi⟩ :: ⟨vmi, 29, 98, si.length, cellsM (si.map (·.2))⟩ :: ⟨vs, 2, 1, cs.length, i64s (natsI cs)⟩ :: ((rowG rwi (si.map (·.1))).map Gr.of ++ GR))) rfl HMX.out HM3.out (fun W h => HS3.out W [] _ h) (fun W hM hU => ?_)
    clear HM3
    (refine AnyS.take (i := 0) rfl (by kernel_rfl) (by kernel_rfl) (by kernel_rfl) (by rfl) (fun _ _ _ h => h) (by rfl) (by intro w; go_simp; with_reducible rfl) hU (fun hU => ?_); (try simp only [Act.put, List.setIfInBounds_toArray, List.set_cons_zero, List.set_cons_succ]); refine AnyS.take (i := 1) rfl (by kernel_rfl) (by kernel_rfl) (by kernel_rfl) (by rfl) (fun _ _ _ h => h) (by rfl) (by intro w; go_simp; with_reducible rfl) hU (fun hU => ?_); (try simp only [Act.put, List.setIfInBounds_toArray, List.set_cons_zero, List.set_cons_succ]); refine AnyS.take (i := 2) rfl (by kernel_rfl) (by kernel_rfl) (by kernel_rfl) (by rfl) (fun _ _ _ h => h) (by rfl) (by intro w; go_simp; with_reducible rfl) hU (fun hU => ?_); (try simp only [Act.put, List.setIfInBounds_toArray, List.set_cons_zero, List.set_cons_succ]); refine AnyS.take (i := 3) rfl (by kernel_rfl) (by kernel_rfl) (by kernel_rfl) (by rfl) (fun _ _ _ h => h) (by rfl) (by intro w; go_simp; with_reducible rfl) hU (fun hU => ?_); (try simp only [Act.put, List.setIfInBounds_toArray, List.set_cons_zero, List.set_cons_succ]))
    (refine AnyS.takeS (i := 4) rfl (by kernel_rfl) (by kernel_rfl) (by kernel_rfl) (by rfl) (by kernel_rfl) (by kernel_rfl) (fun _ _ _ h => h) (by rfl) (by intro W hSw; have h1 := hSw.1; clear hSw; go_simp; with_reducible rfl) hU (fun hU => ?_); (try simp only [Act.put, List.setIfInBounds_toArray, List.set_cons_zero, List.set_cons_succ]))
    (refine AnyS.take (i := 5) rfl (by kernel_rfl) (by kernel_rfl) (by kernel_rfl) (by rfl) (fun _ _ _ h => h) (by rfl) (by intro w; go_simp; with_reducible rfl) hU (fun hU => ?_); (try simp only [Act.put, List.setIfInBounds_toArray, List.set_cons_zero, List.set_cons_succ]); refine AnyS.take (i := 6) rfl (by kernel_rfl) (by kernel_rfl) (by kernel_rfl) (by rfl) (fun _ _ _ h => h) (by rfl) (by intro w; go_simp; with_reducible rfl) hU (fun hU => ?_); (try simp only [Act.put, List.setIfInBounds_toArray, List.set_cons_zero, List.set_cons_succ]); refine AnyS.take (i := 7) rfl (by kernel_rfl) (by kernel_rfl) (by kernel_rfl) (by rfl) (fun _ _ _ h => h) (by rfl) (by intro w; go_simp; with_reducible rfl) hU (fun hU => ?_); (try simp only [Act.put, List.setIfInBounds_toArray, List.set_cons_zero, List.set_cons_succ]))
    (refine AnyS.takeS (i := 8) rfl (by kernel_rfl) (by kernel_rfl) (by kernel_rfl) (by rfl) (by kernel_rfl) (by kernel_rfl) (fun _ _ _ h => h) (by rfl) (by intro W hSw; have h1 := hSw.2; clear hSw; go_simp; with_reducible rfl) hU (fun hU => ?_); (try simp only [Act.put, List.setIfInBounds_toArray, List.set_cons_zero, List.set_cons_succ]))
    (refine AnyS.take (i := 9) rfl (by kernel_rfl) (by kernel_rfl) (by kernel_rfl) (by rfl) (fun _ _ _ h => h) (by rfl) (by intro w; go_simp; with_reducible rfl) hU (fun hU => ?_); (try simp only [Act.put, List.setIfInBounds_toArray, List.set_cons_zero, List.set_cons_succ]); refine AnyS.take (i := 10) rfl (by kernel_rfl) (by kernel_rfl) (by kernel_rfl) (by rfl) (fun _ _ _ h => h) (by rfl) (by intro w; go_simp; with_reducible rfl) hU (fun hU => ?_); (try simp only [Act.put, List.setIfInBounds_toArray, List.set_cons_zero, List.set_cons_succ]); refine AnyS.take (i := 11) rfl (by kernel_rfl) (by kernel_rfl) (by kernel_rfl) (by rfl) (fun _ _ _ h => h) (by rfl) (by intro w; go_simp; with_reducible rfl) hU (fun hU => ?_); (try simp only [Act.put, List.setIfInBounds_toArray, List.set_cons_zero, List.set_cons_succ]))
    (refine AnyS.branch (rs := [12]) (by kernel_rfl) (List.cons_ne_nil _ _) ?_; refine AllS.cons rfl ?_ AllS.nil; intro K hK)
    have hM4 : Mg _ _ _ ((W.heap.size, [.int .i64 ((si.length - s.length : Nat) : Int)], 2) :: _) _ := hM.alloc #[.int .i64 ((si.length - s.length : Nat) : Int)] 2
    go_simp
    refine hK.out _ _ (.inl (HS3.out _ [_] _ hM4)) (fun hU => ?_)
    clear hK K hM
    (try simp only [Act.put, List.setIfInBounds_toArray, List.set_cons_zero, List.set_cons_succ])
    generalize W.alloc (.cells #[.int .i64 ((si.length - s.length : Nat) : Int)] 2) = W4 at *
    generalize W.heap.size = b12 at *
    (refine AnyS.branch (rs := [13]) (by kernel_rfl) (List.cons_ne_nil _ _) ?_; refine AllS.cons rfl ?_ AllS.nil; intro K hK)
    refine Mg.appendQ (by rfl) (.tmp 60) (.tmp 68) 26 rfl hM4 2 rfl Try.underlying26 hi0 hz0 hz1 rfl hz2 (by decide) 0 rfl rfl rfl rfl (by simp [Value.oneCell']) (by omega) hz3 (fun g8 c8 W5 hM5 hO5 hg5 hs5 => ?_)
    (try simp only [List.set_cons_zero, List.set_cons_succ] at hM5)
    refine hK.out _ _ (.inl (HS3.out _ [_] _ hM5)) (fun hU => ?_)
    clear hK K hM4 hO5 hg5 hs5
    (try simp only [Act.put, List.setIfInBounds_toArray, List.set_cons_zero, List.set_cons_succ])
    (refine AnyS.take (i := 14) rfl (by kernel_rfl) (by kernel_rfl) (by kernel_rfl) (by rfl) (fun _ _ _ h => h) (by rfl) (by intro w; go_simp; with_reducible rfl) hU (fun hU => ?_); (try simp only [Act.put, List.setIfInBounds_toArray, List.set_cons_zero, List.set_cons_succ]); refine AnyS.take (i := 15) rfl (by kernel_rfl) (by kernel_rfl) (by kernel_rfl) (by rfl) (fun _ _ _ h => h) (by rfl) (by intro w; go_simp; with_reducible rfl) hU (fun hU => ?_); (try simp only [Act.put, List.setIfInBounds_toArray, List.set_cons_zero, List.set_cons_succ]))
    have hM6 := hM5.sub (L' := [(b, bcell G ga gs.length gc (.slice aw si.length cw2) vmi s.length vs, 97)]) (List.sublist_cons_self _ _)
    have d1 := (hM6.at 0 rfl).cell' (i := 5) rfl
    have f1 := (hM6.at 0 rfl).free 5
    have hM7 := hM6.setCell 0 rfl 5 (.slice (some ⟨g8, 0, none⟩) (cs.length + 1) c8)
    have HM8 : Hid (Mg w0.heap.size w0 (W5.setCell ⟨b, 5, none⟩ (.slice (some ⟨g8, 0, none⟩) (cs.length + 1) c8)) [(b, bcell G ga gs.length gc (.slice aw si.length cw2) vmi s.length (.slice (some ⟨g8, 0, none⟩) (cs.length + 1) c8), 97)] (ballG si (.slice aw si.length cw2) rwi vmi (.slice (some ⟨g8, 0, none⟩) (cs.length + 1) c8) (cs ++ [si.length - s.length]) ++ GR)) := by
      show Mg _ _ _ _ _
      have e1 : i64s (natsI (cs ++ [si.length - s.length])) = i64s (natsI cs) ++ [.int .i64 ((si.length - s.length : Nat) : Int)] := by simp [i64s, natsI]
      unfold ballG
      rw [e1, List.length_append]
      exact hM7
    (refine AnyS.branch (rs := [16]) (by kernel_rfl) (List.cons_ne_nil _ _) ?_; refine AllS.cons rfl ?_ AllS.nil; intro K hK)
    go_simp
    refine hK.out _ _ (.inr ⟨16, by simp, by rfl⟩) (fun hU => ?_)
    clear hK K d1 f1 hM5 hM6 hM7
    (try simp only [Act.put, List.setIfInBounds_toArray, List.set_cons_zero, List.set_cons_succ])
    refine AnyS.done (by kernel_rfl) ?_ _
    clear hU
    go_wp2_with fail
    go_ret
    rw [HST.out]
    exact ⟨rfl, _, _, _, _, HLT.out, HM8.out⟩
end Go.Proofs.Yteagecoiijhflaa
