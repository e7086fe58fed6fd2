import Derived.Test.YteagecoiijhflaaYBall22
/- l10Grow: the next sphere, of the reference: its first regions. -/
namespace Go.Proofs.Yteagecoiijhflaa
open Go.RowKit
set_option linter.unusedVariables false
set_option linter.unusedSimpArgs false

theorem wp_rest {P : Program} {c : Code} {Q : Exit → Act → World → Prop} {a : Act} {w : World} (R : Act → Act → World → Prop) (h2 : ∀ b w, R a b w → Q .normal b w)
    (h1 : c.wp P (fun e b w => match e with | .normal => R a b w | _ => False) a w) : c.wp P Q a w :=
  Code.wp_mono (fun e b w h => by cases e <;> first | exact h2 _ _ h | exact h.elim) h1
/-- what has grown so far: words and machines behind the old ball's -/
def GrowM (B : Nat) (w0 w : World) (h b9 : Nat) (m : Mch) (bl : List Value) (s : Bs) (vw : Value) (rw : List Value) (vm vs : Value) (st : List Nat) (L0 : List (Nat × List Value × TypeId)) (GR : List Gr) : Prop :=
  Mg B w0 w ([(b9, [vw, vm, vs], 90), (h + 1 + 1, [.slice none 0 0, .slice none 0 0, .slice none 0 0], 90), (h + 1, bl, 90), (h, m.cells, 29)] ++ L0) (ballS s vw rw vm vs st ++ GR)
/-- a ball as a value, or a code that is not 0 -/
def RetS4 (B : Nat) (w0 : World) (L0 : List (Nat × List Value × TypeId)) (r : Except Int (Bs × List Nat)) (e : Ending) (w' : World) : Prop := match r with
  | .error c => c ≠ 0 ∧ Mg B w0 w' L0 [] ∧ ∃ x y z, e = .returned (.tuple #[.agg #[x, y, z], .int .i64 c]) ∧ x.oneCell' = true ∧ y.oneCell' = true ∧ z.oneCell' = true
  | .ok (s, st) => ∃ vw vm vs rw, e = .returned (.tuple #[.agg #[vw, vm, vs], .int .i64 0]) ∧ rw.length = s.length ∧ Mg B w0 w' L0 (ballS s vw rw vm vs st)
theorem grow_perm {s : Bs} {vw vm vs v8 : Value} {rw : List Value} {st st2 : List Nat} :
    (⟨v8, 3, 1, st2.length, i64s (natsI st2)⟩ :: (ballS s vw rw vm vs st ++ []) : List Gr).Perm (ballS s vw rw vm v8 st2 ++ [⟨vs, 3, 1, st.length, i64s (natsI st)⟩]) := by
  simp only [ballS, List.append_nil, List.cons_append]
  refine ((List.Perm.swap _ _ _).trans (List.Perm.cons _ ((List.Perm.swap _ _ _).trans (List.Perm.cons _ (List.Perm.cons _ ?_)))))
  exact (List.perm_append_singleton _ _).symm

set_option maxRecDepth 100000 in
set_option maxHeartbeats 4000000 in
theorem l10Grow_any (m : Mch) (hwf : m.Wf) (hok : m.Ok) (B : Nat) (w0 : World) (L0 : List (Nat × List Value × TypeId)) (ga : Option Addr) (gc : Nat) (gs : List Int) (hgs : GW m gs) (h8 : gs.length ≤ 32) (hI : ∀ W, Below B w0 W → IntsAt W ga gs) (vw vm vs : Value) (rw : List Value) (st : List Nat) (s : Bs) (n : Nat) (hn : n ≤ 900)
    (hBs : BsOk m n s) (h1 : 1 ≤ s.length) (hst : ∀ i ∈ st, i ≤ s.length) (hs1 : 1 ≤ st.length) (hs2 : st.length ≤ 1000) (hrw : rw.length = s.length) (w : World) (hM : Mg B w0 w L0 (ballS s vw rw vm vs st ++ [])) :
    Calls Try.prog 80 #[.agg m.cells.toArray, .agg #[vw, vm, vs], .slice ga gs.length gc] w (RetS4 B w0 L0 (stepB m gs (.ok (s, st)))) := by
  have HMX := Lib.hid (show Try.prog.follows .mixedOrders = true by kernel_rfl)
  have HGS := Lib.hid hgs
  have HBS := Lib.hid hBs
  have HRW := Lib.hid hrw
  have HI := Lib.hid hI
  have HST := Lib.hid hst
  have hm2 := hBs.many
  obtain ⟨gw, cw, rfl, hcw, hcm, hgB, hgl⟩ := hM.room 0 (v := vw) rfl (by omega)
  obtain ⟨gm, cm, rfl, -⟩ := hM.room 1 (v := vm) rfl (by omega)
  obtain ⟨gv, cv, rfl, -⟩ := hM.room 2 (v := vs) rfl (by omega)
  have hM0 := ((hM.alloc m.cells.toArray 29).alloc #[.slice (some ⟨gw, 0, none⟩) s.length cw, .slice (some ⟨gm, 0, none⟩) s.length cm, .slice (some ⟨gv, 0, none⟩) st.length cv] 90).alloc #[.slice none 0 0, .slice none 0 0, .slice none 0 0] 90
  rw [World.size_alloc, World.size_alloc] at hM0
  have c0 := (hM0.at 1 rfl).cell' (i := 0) rfl
  have HM0 := Lib.hid hM0
  obtain ⟨i0, iz, hi0, hz0, hz1, hz2, hz3⟩ := info_int
  have HI2 : Hid (∀ a b : Value, (Try.prog.info? 87).map (·.size) = some [a, b].length) := by
    have h : (Try.prog.info? 87).map (·.size) = some 2 := by kernel_rfl
    exact fun _ _ => h
  have HI3 : Hid (∀ a b c : Value, (Try.prog.info? 90).map (·.size) = some [a, b, c].length) := by
    have h : (Try.prog.info? 90).map (·.size) = some 3 := by kernel_rfl
    exact fun _ _ _ => h
  have HS : Hid (∀ W X G', Mg B w0 W (X ++ ([(w.heap.size + 1 + 1, [.slice none 0 0, .slice none 0 0, .slice none 0 0], 90), (w.heap.size + 1, [.slice (some ⟨gw, 0, none⟩) s.length cw, .slice (some ⟨gm, 0, none⟩) s.length cm, .slice (some ⟨gv, 0, none⟩) st.length cv], 90), (w.heap.size, m.cells, 29)] ++ L0)) G' → W.rangeAt (w.heap.size + 1) 0 [.slice (some ⟨gw, 0, none⟩) s.length cw, .slice (some ⟨gm, 0, none⟩) s.length cm] ∧ W.cell? ⟨w.heap.size + 1, 2, none⟩ = some (.slice (some ⟨gv, 0, none⟩) st.length cv)) := fun W X G' h => by
    have h := (h.sub (List.sublist_append_right _ _)).at 1 rfl
    exact ⟨h.range 0 _ (fun j v hj => by
      have hj2 : j < 2 := (List.getElem?_eq_some_iff.1 hj).1
      simp only [Nat.zero_add]
      rcases j with _ | _ | j
      · exact hj
      · exact hj
      · omega), h.cell' (i := 2) rfl⟩
  have HLF : Hid (∀ W b9 g8 c8, Mg B w0 W ([(b9, [.slice (some ⟨gw, 0, none⟩) s.length cw, .slice (some ⟨gm, 0, none⟩) s.length cm, .slice (some ⟨g8, 0, none⟩) (st.length + 1) c8], 90), (w.heap.size + 1 + 1, [.slice none 0 0, .slice none 0 0, .slice none 0 0], 90), (w.heap.size + 1, [.slice (some ⟨gw, 0, none⟩) s.length cw, .slice (some ⟨gm, 0, none⟩) s.length cm, .slice (some ⟨gv, 0, none⟩) st.length cv], 90), (w.heap.size, m.cells, 29)] ++ L0)
      (⟨.slice (some ⟨g8, 0, none⟩) (st.length + 1) c8, 3, 1, st.length + 1, i64s (natsI st) ++ [.int .i64 (s.length : Int)]⟩ :: (ballS s (.slice (some ⟨gw, 0, none⟩) s.length cw) rw (.slice (some ⟨gm, 0, none⟩) s.length cm) (.slice (some ⟨gv, 0, none⟩) st.length cv) st ++ [])) →
      GrowM B w0 W w.heap.size b9 m [.slice (some ⟨gw, 0, none⟩) s.length cw, .slice (some ⟨gm, 0, none⟩) s.length cm, .slice (some ⟨gv, 0, none⟩) st.length cv] s (.slice (some ⟨gw, 0, none⟩) s.length cw) rw (.slice (some ⟨gm, 0, none⟩) s.length cm) (.slice (some ⟨g8, 0, none⟩) (st.length + 1) c8) (st ++ [s.length]) L0 [⟨.slice (some ⟨gv, 0, none⟩) st.length cv, 3, 1, st.length, i64s (natsI st)⟩]) := fun W b9 g8 c8 h => by
    have e1 : i64s (natsI (st ++ [s.length])) = i64s (natsI st) ++ [.int .i64 (s.length : Int)] := by simp [i64s, natsI]
    have e2 : (st ++ [s.length]).length = st.length + 1 := by simp
    rw [← e1, ← e2] at h
    have h2 := h.permG grow_perm
    rw [e2] at h2
    exact h2
  clear hgs hBs hrw hI hst hM hM0
  go_enter Try.func80, Try.ntmps80
  go_wp2_with fail
  have HMD : Hid (∀ d, Mg B w0 ((((w.alloc (.cells m.cells.toArray 29)).alloc (.cells #[.slice (some ⟨gw, 0, none⟩) s.length cw, .slice (some ⟨gm, 0, none⟩) s.length cm, .slice (some ⟨gv, 0, none⟩) st.length cv] 90)).alloc (.cells #[.slice none 0 0, .slice none 0 0, .slice none 0 0] 90)).drewN d) ([(w.heap.size + 1 + 1, [.slice none 0 0, .slice none 0 0, .slice none 0 0], 90), (w.heap.size + 1, [.slice (some ⟨gw, 0, none⟩) s.length cw, .slice (some ⟨gm, 0, none⟩) s.length cm, .slice (some ⟨gv, 0, none⟩) st.length cv], 90), (w.heap.size, m.cells, 29)] ++ L0) (ballS s (.slice (some ⟨gw, 0, none⟩) s.length cw) rw (.slice (some ⟨gm, 0, none⟩) s.length cm) (.slice (some ⟨gv, 0, none⟩) st.length cv) st ++ [])) := fun d => HM0.out.drewN d
  clear HM0 c0
  refine wp_rest (fun A ac W => ∃ (b2 g5 c5 b7 g8 c8 b9 : Nat), ac = ((((((((((A.put (some 20) (.pointer (some ⟨w.heap.size + 1, 0, none⟩))).put (some 21) (.agg #[.slice (some ⟨gw, 0, none⟩) s.length cw, .slice (some ⟨gm, 0, none⟩) s.length cm])).put (some 23) (.pointer (some ⟨w.heap.size + 1, 2, none⟩))).put (some 24) (.slice (some ⟨gv, 0, none⟩) st.length cv)).put (some 26) (.int .i64 (s.length : Int))).put (some 22) (.slice (some ⟨b2, 0, none⟩) 0 0)).put (some 25) (.slice (some ⟨g5, 0, none⟩) st.length c5)).put (some 27) (.slice (some ⟨b7, 0, none⟩) 1 1)).put (some 28) (.slice (some ⟨g8, 0, none⟩) (st.length + 1) c8)).put (some 9) (.pointer (some ⟨b9, 0, none⟩))).put (some 29) (.agg #[.slice (some ⟨gw, 0, none⟩) s.length cw, .slice (some ⟨gm, 0, none⟩) s.length cm, .slice (some ⟨g8, 0, none⟩) (st.length + 1) c8]) ∧
    GrowM B w0 W w.heap.size b9 m [.slice (some ⟨gw, 0, none⟩) s.length cw, .slice (some ⟨gm, 0, none⟩) s.length cm, .slice (some ⟨gv, 0, none⟩) st.length cv] s (.slice (some ⟨gw, 0, none⟩) s.length cw) rw (.slice (some ⟨gm, 0, none⟩) s.length cm) (.slice (some ⟨g8, 0, none⟩) (st.length + 1) c8) (st ++ [s.length]) L0 [⟨.slice (some ⟨gv, 0, none⟩) st.length cv, 3, 1, st.length, i64s (natsI st)⟩]) ?_ ?_
  · rintro ac W3 ⟨b2, g5, c5, b7, g8, c8, b9, rfl, hM⟩
    (try simp only [Act.put, List.setIfInBounds_toArray, List.set_cons_zero, List.set_cons_succ])
    obtain ⟨f, hf⟩ : ∃ f, f = lastN st := ⟨_, rfl⟩
    have hfs : f ≤ s.length := by
      rw [hf]
      cases e : st.getLast? with
      | none => simp [lastN, e]
      | some a => simp only [lastN, e, Option.getD_some]; exact HST.out a (List.mem_of_getLast? e)
    have HF := Lib.hid hf
    have c2 := (hM.at 2 rfl).cell' (i := 2) rfl
    have cl : W3.cell? ⟨gv, st.length - 1, none⟩ = some (.int .i64 (f : Int)) := by
      have ho := hM.own ⟨.slice (some ⟨gv, 0, none⟩) st.length cv, 3, 1, st.length, i64s (natsI st)⟩ (List.mem_append_right _ (List.mem_singleton.2 rfl))
      have hl : (i64s (natsI st))[st.length - 1]? = some (.int .i64 (f : Int)) := by
        refine i64s_at (by omega) ?_
        rw [hf, lastN, List.getLast?_eq_getElem?]
      have h2 := World.ownsRow.cells ho (g := gv) rfl _ _ hl
      rwa [addr_add] at h2
    have e1 : IntKind.i64.wrap ((st.length : Int) - 1) = ((st.length - 1 : Nat) : Int) := by rw [IntWalk.i64_in _ (by omega)]; omega
    have k0 : (0 : Int) ≤ ((st.length - 1 : Nat) : Int) := by omega
    have k2 : ((st.length - 1 : Nat) : Int) < (st.length : Int) := by omega
    have HM := Lib.hid hM
    clear hM hf HMD HS HLF
    go_wp2_with fail
    clear c2 cl e1 k0 k2
    obtain ⟨ws, hws⟩ : ∃ ws, ws = (s.map (·.1)).drop f := ⟨_, rfl⟩
    have HWS := Lib.hid hws
    have HWL : Hid (ws.length = s.length - f) := by show _ = _; rw [hws, List.length_drop, List.length_map]
    have HWA : Hid (∀ i, i < s.length - f → ws[i]?.getD [] = (s[f + i]?.map (·.1)).getD []) := fun i hi => by rw [hws, List.getElem?_drop, List.getElem?_map]
    have HAL : Hid (∀ {i}, i < ws.length → ∀ k, ∃ R, askG gs ws = askP gs ws i k ++ R) := fun h k => askP_all gs ws h k
    have HASK : Hid (∀ w ∈ askG gs ws, GW m w ∧ w.length ≤ n + 1) := by
      show ∀ w ∈ _, _
      rw [hws]; exact ask_ok HGS.out HBS.out f
    clear hws
    go_loopw [10] (fun iv wr => ∃ (i j : Nat) (si : Bs) (vwi vmi : Value) (rwi : List Value), i ≤ s.length - f ∧ Hid (j = f + i) ∧ iv = .int .i64 (j : Int) ∧ Hid (growS m (askG gs (ws.take i)) (.ok s) = .ok si) ∧ Hid (rwi.length = si.length) ∧ Hid (∃ R, rwi = rw ++ R) ∧
      GrowM B w0 wr w.heap.size b9 m [.slice (some ⟨gw, 0, none⟩) s.length cw, .slice (some ⟨gm, 0, none⟩) s.length cm, .slice (some ⟨gv, 0, none⟩) st.length cv] si vwi rwi vmi (.slice (some ⟨g8, 0, none⟩) (st.length + 1) c8) (st ++ [s.length]) L0 [⟨.slice (some ⟨gv, 0, none⟩) st.length cv, 3, 1, st.length, i64s (natsI st)⟩] ∧
      Hid (Hdr wr b9 vwi vmi si.length gw rw)) (fun i _ => s.length - (intOf i).toNat)
    case atStart => exact ⟨0, f, s, _, _, rw, Nat.zero_le _, rfl, rfl, growS_nil m _, HRW.out, ⟨[], (List.append_nil _).symm⟩, HM.out, Mg.hdrS HM.out HRW.out⟩
    case round =>
      clear HM
      obtain ⟨i, j, si, vwi, vmi, rwi, hi, HJ, rfl, HS, HL, HP, hM, HH⟩ := hrel
      have hjl : j ≤ s.length := by have := HJ.out; omega
      have ei : IntKind.i64.wrap ((j : Int) + 1) = (j : Int) + 1 := IntWalk.i64_in _ (by omega)
      have HM := Lib.hid hM
      by_cases hlt : i < s.length - f
      · have hfi : f + i < s.length := by omega
        have hj2 : j < s.length := by have := HJ.out; omega
        have i2 : (j : Int) < (s.length : Int) := by omega
        clear hM
        have hx := HWA.out i hlt
        have HX : Hid (GW m (ws[i]?.getD []) ∧ (ws[i]?.getD []).length ≤ n) := by
          show _ ∧ _
          rw [hx, List.getElem?_eq_getElem hfi, Option.map_some, Option.getD_some]
          exact ⟨HBS.out.gw _ (List.getElem_mem hfi), HBS.out.len _ (List.getElem_mem hfi)⟩
        obtain ⟨r, hr⟩ : ∃ r, rw[f + i]? = some r := ⟨_, List.getElem?_eq_getElem (by rw [HRW.out]; exact hfi)⟩
        have HRO : Hid (∀ W L sj vwj rwj vmj v8 st2 GR, Mg B w0 W L (ballS sj vwj rwj vmj v8 st2 ++ GR) → rwj.length = sj.length → (∃ R, rwj = rw ++ R) → (∃ R, sj = s ++ R) → OwnI W B r (ws[i]?.getD [])) := by
          rintro W L sj vwj rwj vmj v8 st2 GR h hl ⟨R, rfl⟩ ⟨R2, rfl⟩
          have h1 := h.wordAtS hl (i := f + i) (by rw [List.length_append]; omega)
          rw [List.getElem?_append_left (by rw [HRW.out]; exact hfi), hr, List.getElem?_append_left hfi, ← hx] at h1
          exact h1
        obtain ⟨ar, cr, rfl, -⟩ := (HRO.out wr _ si _ rwi _ _ _ _ HM.out HL.out HP.out (growS_pre _ _ _ HS.out)).form
        have HCR : Hid (∀ W vwj vmj k, Hdr W b9 vwj vmj k gw rw → W.cell? ⟨gw, j, none⟩ = some (.slice ar (ws[i]?.getD []).length cr)) := fun W vwj vmj k h => by rw [HJ.out]; exact h.cell _ _ hr
        have HAR := Lib.hid (askP_row gs ws (i := i) (by rw [HWL.out]; exact hlt))
        have HAN := Lib.hid (fun k hk => askP_next gs ws i (k := k) hk)
        have HAL2 := Lib.hid (HAL.out (i := i) (by rw [HWL.out]; exact hlt))
        have HS2 : Hid (growS m (askP gs ws i 0) (.ok s) = .ok si) := by show _ = _; rw [askP_zero]; exact HS.out
        have hxn := HX.out.2
        generalize ws[i]?.getD [] = x at *
        clear hx hr HS
        go_wp2_with fail
        go_loopw [11] (fun kv wk => ∃ (k : Nat) (sj : Bs) (vwj vmj : Value) (rwj : List Value), k ≤ gs.length ∧ kv = .int .i64 (k : Int) ∧ Hid (growS m (askP gs ws i k) (.ok s) = .ok sj) ∧ Hid (rwj.length = sj.length) ∧ Hid (∃ R, rwj = rw ++ R) ∧
          GrowM B w0 wk w.heap.size b9 m [.slice (some ⟨gw, 0, none⟩) s.length cw, .slice (some ⟨gm, 0, none⟩) s.length cm, .slice (some ⟨gv, 0, none⟩) st.length cv] sj vwj rwj vmj (.slice (some ⟨g8, 0, none⟩) (st.length + 1) c8) (st ++ [s.length]) L0 [⟨.slice (some ⟨gv, 0, none⟩) st.length cv, 3, 1, st.length, i64s (natsI st)⟩] ∧ Hid (Hdr wk b9 vwj vmj sj.length gw rw)) (fun k _ => gs.length - (intOf k).toNat)
        case atStart => exact ⟨0, si, _, _, rwi, Nat.zero_le _, rfl, HS2.out, HL.out, HP.out, HM.out, HH.out⟩
        case round =>
          clear HM HS2 HL HP HH
          obtain ⟨k, sj, vwj, vmj, rwj, hk, rfl, HS, HL, HP, hM, HH⟩ := hrel
          have ek : IntKind.i64.wrap ((k : Int) + 1) = (k : Int) + 1 := IntWalk.i64_in _ (by omega)
          by_cases hkl : k < gs.length
          · obtain ⟨bb, off, rfl, c1⟩ := HI.out wr hM.below k hkl
            have HG1 : Hid (∀ W, Below B w0 W → W.cell? ⟨bb, off + k, none⟩ = some (.int .i64 (gs[k]?.getD 0))) := fun W hb => by
              obtain ⟨bb', off', e, c2⟩ := HI.out W hb k hkl
              injection e with e
              injection e with e1 e2
              subst e1 e2
              exact c2
            have k1 : (0 : Int) ≤ (k : Int) := by omega
            have k2 : (k : Int) < (gs.length : Int) := by omega
            have hkm : gs[k]?.getD 0 ∈ gs := by rw [List.getElem?_eq_getElem hkl, Option.getD_some]; exact List.getElem_mem hkl
            have HKM : Hid (gs[k]?.getD 0 ≠ 0 ∧ -(m.s : Int) ≤ gs[k]?.getD 0 ∧ gs[k]?.getD 0 ≤ m.s) := HGS.out _ hkm
            have HAK := Lib.hid (HAN.out k hkl)
            have HAK2 := Lib.hid (HAL2.out (k + 1))
            have HOW : Hid (∀ W L, Mg B w0 W L (ballS sj vwj rwj vmj (.slice (some ⟨g8, 0, none⟩) (st.length + 1) c8) (st ++ [s.length]) ++ [⟨.slice (some ⟨gv, 0, none⟩) st.length cv, 3, 1, st.length, i64s (natsI st)⟩]) → Calls Try.prog 71 #[.slice ar x.length cr] W (fun e w' => ∃ v', e = .returned v' ∧ Below W.heap.size W w' ∧ OwnI w' W.heap.size v' x)) := fun W L h => l01Own_any _ x (by omega) _ W (HRO.out W L sj _ rwj _ _ _ _ h HL.out HP.out (growS_pre _ _ _ HS.out))
            generalize gs[k]?.getD 0 = y at *
            have HXY : Hid (GW m (x ++ [y])) := gw_app HX.out.1 fun p hp => by rw [List.mem_singleton.1 hp]; exact HKM.out
            have i1 : (0 : Int) ≤ (j : Int) := by omega
            have HM : Hid (Mg B w0 wr ([(b9, [vwj, vmj, .slice (some ⟨g8, 0, none⟩) (st.length + 1) c8], 90), (w.heap.size + 1 + 1, [.slice none 0 0, .slice none 0 0, .slice none 0 0], 90), (w.heap.size + 1, [.slice (some ⟨gw, 0, none⟩) s.length cw, .slice (some ⟨gm, 0, none⟩) s.length cm, .slice (some ⟨gv, 0, none⟩) st.length cv], 90), (w.heap.size, m.cells, 29)] ++ L0) (ballS sj vwj rwj vmj (.slice (some ⟨g8, 0, none⟩) (st.length + 1) c8) (st ++ [s.length]) ++ [⟨.slice (some ⟨gv, 0, none⟩) st.length cv, 3, 1, st.length, i64s (natsI st)⟩])) := hM
            have HSD : Hid (∀ W L G', Mg B w0 W (L ++ ([(b9, [vwj, vmj, .slice (some ⟨g8, 0, none⟩) (st.length + 1) c8], 90), (w.heap.size + 1 + 1, [.slice none 0 0, .slice none 0 0, .slice none 0 0], 90), (w.heap.size + 1, [.slice (some ⟨gw, 0, none⟩) s.length cw, .slice (some ⟨gm, 0, none⟩) s.length cm, .slice (some ⟨gv, 0, none⟩) st.length cv], 90), (w.heap.size, m.cells, 29)] ++ L0)) G' → Hdr W b9 vwj vmj sj.length gw rw → W.cell? ⟨w.heap.size + 1, 0, none⟩ = some (.slice (some ⟨gw, 0, none⟩) s.length cw) ∧ W.cell? ⟨gw, j, none⟩ = some (.slice ar x.length cr) ∧ W.cell? ⟨bb, off + k, none⟩ = some (.int .i64 y)) := fun W L G' h hh => ⟨((h.sub (List.sublist_append_right _ _)).at 2 rfl).cell' (i := 0) rfl, HCR.out W _ _ _ hh, HG1.out W h.below⟩
            clear hM hkm c1
            go_wp2_with fail
            have HMe : Hid (Mg B w0 wr.drew ([(b9, [vwj, vmj, .slice (some ⟨g8, 0, none⟩) (st.length + 1) c8], 90), (w.heap.size + 1 + 1, [.slice none 0 0, .slice none 0 0, .slice none 0 0], 90), (w.heap.size + 1, [.slice (some ⟨gw, 0, none⟩) s.length cw, .slice (some ⟨gm, 0, none⟩) s.length cm, .slice (some ⟨gv, 0, none⟩) st.length cv], 90), (w.heap.size, m.cells, 29)] ++ L0) (ballS sj vwj rwj vmj (.slice (some ⟨g8, 0, none⟩) (st.length + 1) c8) (st ++ [s.length]) ++ [⟨.slice (some ⟨gv, 0, none⟩) st.length cv, 3, 1, st.length, i64s (natsI st)⟩]) ∧ Hdr wr.drew b9 vwj vmj sj.length gw rw) := ⟨HM.out.drewN 1, HH.out.below ⟨rfl, rfl, rfl, Nat.le_refl _, fun _ _ => rfl⟩⟩
            clear HM HH
            refine wp_rest (fun A ac W => ∃ (v6 : Value) (b11 g12 c12 : Nat), ac = ((((((((((((((A.put (some 49) (.pointer (some ⟨w.heap.size + 1, 0, none⟩))).put (some 50) (.pointer (some ⟨w.heap.size + 1, 0, none⟩))).put (some 51) (.slice (some ⟨gw, 0, none⟩) s.length cw)).put (some 52) (.int .i64 (j : Int))).put (some 53) (.pointer (some ⟨gw, j, none⟩))).put (some 54) (.slice ar x.length cr)).put (some 56) (.slice (some ⟨bb, off, none⟩) gs.length gc)).put (some 57) (.int .i64 (k : Int))).put (some 58) (.pointer (some ⟨bb, off + k, none⟩))).put (some 59) (.int .i64 y)).put (some 55) (v6)).put (some 60) (.slice (some ⟨b11, 0, none⟩) 1 1)).put (some 61) (.slice (some ⟨g12, 0, none⟩) (x.length + 1) c12)).put (some 12) (.slice (some ⟨g12, 0, none⟩) (x.length + 1) c12)) ∧
              Mg B w0 W ([(b9, [vwj, vmj, .slice (some ⟨g8, 0, none⟩) (st.length + 1) c8], 90), (w.heap.size + 1 + 1, [.slice none 0 0, .slice none 0 0, .slice none 0 0], 90), (w.heap.size + 1, [.slice (some ⟨gw, 0, none⟩) s.length cw, .slice (some ⟨gm, 0, none⟩) s.length cm, .slice (some ⟨gv, 0, none⟩) st.length cv], 90), (w.heap.size, m.cells, 29)] ++ L0) (⟨.slice (some ⟨g12, 0, none⟩) (x ++ [y]).length c12, 2, 1, (x ++ [y]).length, i64s (x ++ [y])⟩ :: (ballS sj vwj rwj vmj (.slice (some ⟨g8, 0, none⟩) (st.length + 1) c8) (st ++ [s.length]) ++ [⟨.slice (some ⟨gv, 0, none⟩) st.length cv, 3, 1, st.length, i64s (natsI st)⟩])) ∧ Hdr W b9 vwj vmj sj.length gw rw) ?_ ?_
            · clear HMe HOW HSD
              rintro ac W4 ⟨v6, b11, g12, c12, rfl, hM, hH⟩
              (try simp only [Act.put, List.setIfInBounds_toArray, List.set_cons_zero, List.set_cons_succ])
              obtain ⟨aw, cwj, rfl⟩ := hM.sl 1 (v := vwj) rfl
              obtain ⟨am, cmj, rfl⟩ := hM.sl 2 (v := vmj) rfl
              have e2 : (x ++ [y]).length = x.length + 1 := by simp
              have hBj : BsOk m (n + 1) sj := BsOk.grow _ _ _ (HBS.out.less (Nat.le_succ n)) (fun w hw => HASK.out w (by obtain ⟨R, hR⟩ := HAL2.out k; rw [hR]; exact List.mem_append_left _ hw)) HS.out
              have hj200 := hBj.many
              have HBW := Lib.hid (hBj.wf hok hwf)
              have HLM : Hid ((sj.map (·.2)).length = sj.length) := List.length_map _
              have HAT := Lib.hid (l04At_any m hwf hok (.slice aw sj.length cwj) am cmj (sj.map (·.2)) (by rw [HLM.out]; omega) HBW.out (some ⟨g12, 0, none⟩) (x ++ [y]) c12 HXY.out (by omega) W4 (hM.intsA 0 rfl) (hM.ms (i := 2) HBW.out HLM.out.symm rfl))
              rw [HLM.out, e2] at HAT
              have HWM := Lib.hid (fun M h => mwT_wf (M := M) hok hwf HXY.out h)
              have hm4 := hM.mach 3 rfl
              have k90 := (hM.at 0 rfl).cell' (i := 0) rfl
              have k91 := (hM.at 0 rfl).cell' (i := 1) rfl
              have HM4 := Lib.hid hM
              have HH4 := Lib.hid hH
              clear hM hH hBj
              go_wp2_with ((with_reducible refine ld_mach ?_ (.tmp 3) ?_ w.heap.size 0 ?_ m hm4 hwf ?_); exact rfl; exact rfl; exact rfl)
              refine HAT.out.mono ?_
              rintro e w5 ⟨hb5, hR5⟩
              obtain ⟨Mx, px, cx, rfl, hMx, hcase⟩ : ∃ (Mx : Mch) (px cx : Int), e = .returned (.tuple #[.int .i64 px, .agg Mx.cells.toArray, .int .i64 cx]) ∧ Mx.Wf ∧ ((mwR m (x ++ [y]) = none ∧ px = -1 ∧ cx = 3) ∨ (mwR m (x ++ [y]) = some Mx ∧ px = posM (sj.map (·.2)) Mx ∧ cx = 0)) := by
                cases hp : mwR m (x ++ [y]) with
                | none => rw [hp] at hR5; exact ⟨zeroM, -1, 3, by rw [← zeroM_eq]; exact hR5, zeroM_wf, .inl ⟨rfl, rfl, rfl⟩⟩
                | some M => rw [hp] at hR5; exact ⟨M, _, 0, hR5, HWM.out M hp, .inr ⟨rfl, rfl, rfl⟩⟩
              have hM5 := (HM4.out.call hb5).alloc Try.zeroCells29 29
              have hH6 := (HH4.out.below hb5).below ((Below.refl _ _).alloc (Nat.le_refl _) (.cells Try.zeroCells29 29))
              have HIM := Lib.hid (mach_infoT hMx)
              have HOM := Lib.hid (mach_ones Mx)
              have hML := Mch.cells_length hMx
              have ht := (hM5.at 0 rfl).there 0 Mx.cells.length (by simp only; rw [zero_len, hML]; omega)
              have hM6 := hM5.setAll 0 rfl (vs := Mx.cells) (by rw [zero_len, hML])
              have hH6 : Hdr ((w5.alloc (.cells Try.zeroCells29 29)).setCells w5.heap.size 0 Mx.cells) b9 (.slice aw sj.length cwj) (.slice am sj.length cmj) sj.length gw rw := (HH4.out.below hb5).below (below_setCells (Nat.le_refl _) _ ((Below.refl _ _).alloc (Nat.le_refl _) _) 0)
              have k60 := (hM6.at 1 rfl).cell' (i := 0) rfl
              have k61 := (hM6.at 1 rfl).cell' (i := 1) rfl
              have k62 := (hM6.at 1 rfl).cell' (i := 2) rfl
              have ht3 := (hM6.at 2 rfl).there 0 3 (by simp)
              have HM6 : Hid (Mg B w0 ((w5.alloc (.cells Try.zeroCells29 29)).setCells w5.heap.size 0 Mx.cells) ((w5.heap.size, Mx.cells, 29) :: (b9, [.slice aw sj.length cwj, .slice am sj.length cmj, .slice (some ⟨g8, 0, none⟩) (st.length + 1) c8], 90) :: (w.heap.size + 1 + 1, [.slice none 0 0, .slice none 0 0, .slice none 0 0], 90) :: (w.heap.size + 1, [.slice (some ⟨gw, 0, none⟩) s.length cw, .slice (some ⟨gm, 0, none⟩) s.length cm, .slice (some ⟨gv, 0, none⟩) st.length cv], 90) :: ([(w.heap.size, m.cells, 29)] ++ L0)) (⟨.slice (some ⟨g12, 0, none⟩) (x ++ [y]).length c12, 2, 1, (x ++ [y]).length, i64s (x ++ [y])⟩ :: (ballS sj (.slice aw sj.length cwj) rwj (.slice am sj.length cmj) (.slice (some ⟨g8, 0, none⟩) (st.length + 1) c8) (st ++ [s.length]) ++ [⟨.slice (some ⟨gv, 0, none⟩) st.length cv, 3, 1, st.length, i64s (natsI st)⟩]))) := hM6
              have HH6 := Lib.hid hH6
              have HCA := Lib.hid hcase
              clear hM5 hM6 hH6 hcase HAT hb5 hm4 k90 k91 hR5 HM4 HH4
              rcases HCA.out with ⟨hp, rfl, rfl⟩ | ⟨hp, hpx, rfl⟩
              · have HER : Hid (stepB m gs (.ok (s, st)) = .error 3) := by
                  refine stepB_bad ?_
                  obtain ⟨R, hR⟩ := HAK2.out
                  rw [← HF.out, ← HWS.out, hR, HAK.out, growS_app, growS_app, HS.out, growS_one, putB_none hp, growS_err]
                clear HCA hp
                go_wp2_with (first | ((with_reducible refine st_row ?_ 29 (.tmp 14) (.tmp 69) ?_ w5.heap.size 0 Mx.cells ?_ ?_ ht HIM.out HOM.out ?_); exact rfl; exact rfl; exact rfl; exact rfl; clear ht; generalize (w5.alloc (.cells Try.zeroCells29 29)).setCells w5.heap.size 0 Mx.cells = W6 at *) | ((with_reducible refine st_row ?_ 90 (.tmp 6) (.tmp 73) ?_ (w.heap.size + 1 + 1) 0 [.slice aw sj.length cwj, .slice am sj.length cmj, .slice (some ⟨g8, 0, none⟩) (st.length + 1) c8] ?_ ?_ ?_ (HI3.out _ _ _) ?_ ?_); exact rfl; exact rfl; exact rfl; exact rfl; exact ht3; (simp [Value.oneCell'])))
                have hN := HM6.out.setAll 2 rfl (vs := [.slice aw sj.length cwj, .slice am sj.length cmj, .slice (some ⟨g8, 0, none⟩) (st.length + 1) c8]) rfl
                have HB := Lib.hid (hN.at 2 rfl)
                refine bodyPost_ret (v := .tuple #[.agg #[.slice aw sj.length cwj, .slice am sj.length cmj, .slice (some ⟨g8, 0, none⟩) (st.length + 1) c8], .int .i64 3]) (results_ct Try.results80 _ _ (w.heap.size + 1 + 1) 90 #[.slice aw sj.length cwj, .slice am sj.length cmj, .slice (some ⟨g8, 0, none⟩) (st.length + 1) c8] (0, 0) (.struct _) rfl HB.out Try.underlying90 rfl (HI3.out (.slice aw sj.length cwj) (.slice am sj.length cmj) (.slice (some ⟨g8, 0, none⟩) (st.length + 1) c8))) rfl ?_
                rw [HER.out]
                exact ⟨by decide, ((hN.sub (L' := L0) ((List.sublist_cons_self _ _).trans ((List.sublist_cons_self _ _).trans ((List.sublist_cons_self _ _).trans ((List.sublist_cons_self _ _).trans (List.sublist_cons_self _ _)))))).subG (List.nil_sublist _)), _, _, _, rfl, rfl, rfl, rfl⟩
              · by_cases hpp : 0 ≤ px
                · have HS7 : Hid (growS m (askP gs ws i (k + 1)) (.ok s) = .ok sj) := by
                    show _ = _
                    rw [HAK.out, growS_app, HS.out, growS_one, putB_old hp (by rw [← hpx]; exact hpp)]
                  have HM7 : Hid (GrowM B w0 ((w5.alloc (.cells Try.zeroCells29 29)).setCells w5.heap.size 0 Mx.cells) w.heap.size b9 m [.slice (some ⟨gw, 0, none⟩) s.length cw, .slice (some ⟨gm, 0, none⟩) s.length cm, .slice (some ⟨gv, 0, none⟩) st.length cv] sj (.slice aw sj.length cwj) rwj (.slice am sj.length cmj) (.slice (some ⟨g8, 0, none⟩) (st.length + 1) c8) (st ++ [s.length]) L0 [⟨.slice (some ⟨gv, 0, none⟩) st.length cv, 3, 1, st.length, i64s (natsI st)⟩]) := (HM6.out.sub (List.sublist_cons_self _ _)).subG (List.sublist_cons_self _ _)
                  clear HCA hp hpx k60 k61 k62 ht3 HM6
                  go_wp2_with ((with_reducible refine st_row ?_ 29 (.tmp 14) (.tmp 69) ?_ w5.heap.size 0 Mx.cells ?_ ?_ ht HIM.out HOM.out ?_); exact rfl; exact rfl; exact rfl; exact rfl; clear ht; generalize (w5.alloc (.cells Try.zeroCells29 29)).setCells w5.heap.size 0 Mx.cells = W6 at *)
                  go_roundw
                  case rel => exact ⟨k + 1, sj, _, _, rwj, by omega, by go_num, HS7.out, HL.out, HP.out, HM7.out, HH6.out⟩
                  case measure => simp [intOf] <;> omega
                · by_cases h200 : sj.length = 200
                  · have HER : Hid (stepB m gs (.ok (s, st)) = .error 3) := by
                      refine stepB_bad ?_
                      obtain ⟨R, hR⟩ := HAK2.out
                      rw [← HF.out, ← HWS.out, hR, HAK.out, growS_app, growS_app, HS.out, growS_one, putB_full hp (by rw [← hpx]; exact hpp) h200, growS_err]
                    have j1 : ((sj.length : Int) == 200) = true := by simp; omega
                    clear HCA hp hpx h200
                    go_wp2_with (first | ((with_reducible refine st_row ?_ 29 (.tmp 14) (.tmp 69) ?_ w5.heap.size 0 Mx.cells ?_ ?_ ht HIM.out HOM.out ?_); exact rfl; exact rfl; exact rfl; exact rfl; clear ht; generalize (w5.alloc (.cells Try.zeroCells29 29)).setCells w5.heap.size 0 Mx.cells = W6 at *) | ((with_reducible refine st_row ?_ 90 (.tmp 6) (.tmp 82) ?_ (w.heap.size + 1 + 1) 0 [.slice aw sj.length cwj, .slice am sj.length cmj, .slice (some ⟨g8, 0, none⟩) (st.length + 1) c8] ?_ ?_ ?_ (HI3.out _ _ _) ?_ ?_); exact rfl; exact rfl; exact rfl; exact rfl; exact ht3; (simp [Value.oneCell'])))
                    have hN := HM6.out.setAll 2 rfl (vs := [.slice aw sj.length cwj, .slice am sj.length cmj, .slice (some ⟨g8, 0, none⟩) (st.length + 1) c8]) rfl
                    have HB := Lib.hid (hN.at 2 rfl)
                    refine bodyPost_ret (v := .tuple #[.agg #[.slice aw sj.length cwj, .slice am sj.length cmj, .slice (some ⟨g8, 0, none⟩) (st.length + 1) c8], .int .i64 3]) (results_ct Try.results80 _ _ (w.heap.size + 1 + 1) 90 #[.slice aw sj.length cwj, .slice am sj.length cmj, .slice (some ⟨g8, 0, none⟩) (st.length + 1) c8] (0, 0) (.struct _) rfl HB.out Try.underlying90 rfl (HI3.out (.slice aw sj.length cwj) (.slice am sj.length cmj) (.slice (some ⟨g8, 0, none⟩) (st.length + 1) c8))) rfl ?_
                    rw [HER.out]
                    exact ⟨by decide, ((hN.sub (L' := L0) ((List.sublist_cons_self _ _).trans ((List.sublist_cons_self _ _).trans ((List.sublist_cons_self _ _).trans ((List.sublist_cons_self _ _).trans (List.sublist_cons_self _ _)))))).subG (List.nil_sublist _)), _, _, _, rfl, rfl, rfl, rfl⟩
                  · have HS7 : Hid (growS m (askP gs ws i (k + 1)) (.ok s) = .ok (sj ++ [(x ++ [y], Mx)])) := by
                      show _ = _
                      rw [HAK.out, growS_app, HS.out, growS_one, putB_new hp (by rw [← hpx]; exact hpp) h200]
                    have j1 : ((sj.length : Int) == 200) = false := by simp; omega
                    clear HCA hp hpx h200
                    obtain ⟨i0, iz, hi0, hz0, hz1, hz2, hz3⟩ : ∃ i0 z, Try.prog.info? 26 = some i0 ∧ i0.zero = some z ∧ i0.size = 1 ∧ z.cells.size = 1 ∧ i0.bytes ≤ 1000 := by
                      obtain ⟨i0, h1, h2, h3, h4⟩ := info_parts Try.info26
                      exact ⟨i0, _, h1, h2, h3, rfl, by omega⟩
                    obtain ⟨j0, jz, hj0, hy0, hy1, hy2, hy3⟩ := info_mach
                    have hlen98 : Mx.cells.length = 98 := hML
                    have e2' : (x ++ [y]).length = x.length + 1 := by simp
                    have HMA : Hid (∀ W, Mg B w0 W ((w5.heap.size, Mx.cells, 29) :: (b9, [.slice aw sj.length cwj, .slice am sj.length cmj, .slice (some ⟨g8, 0, none⟩) (st.length + 1) c8], 90) :: (w.heap.size + 1 + 1, [.slice none 0 0, .slice none 0 0, .slice none 0 0], 90) :: (w.heap.size + 1, [.slice (some ⟨gw, 0, none⟩) s.length cw, .slice (some ⟨gm, 0, none⟩) s.length cm, .slice (some ⟨gv, 0, none⟩) st.length cv], 90) :: ([(w.heap.size, m.cells, 29)] ++ L0)) (⟨.slice (some ⟨g12, 0, none⟩) (x ++ [y]).length c12, 2, 1, (x ++ [y]).length, i64s (x ++ [y])⟩ :: (ballS sj (.slice aw sj.length cwj) rwj (.slice am sj.length cmj) (.slice (some ⟨g8, 0, none⟩) (st.length + 1) c8) (st ++ [s.length]) ++ [⟨.slice (some ⟨gv, 0, none⟩) st.length cv, 3, 1, st.length, i64s (natsI st)⟩])) →
                      Mg B w0 (W.alloc (.cells #[.slice (some ⟨g12, 0, none⟩) (x.length + 1) c12] 26)) ((W.heap.size, [.slice (some ⟨g12, 0, none⟩) (x.length + 1) c12], 26) :: (w5.heap.size, Mx.cells, 29) :: (b9, [.slice aw sj.length cwj, .slice am sj.length cmj, .slice (some ⟨g8, 0, none⟩) (st.length + 1) c8], 90) :: (w.heap.size + 1 + 1, [.slice none 0 0, .slice none 0 0, .slice none 0 0], 90) :: (w.heap.size + 1, [.slice (some ⟨gw, 0, none⟩) s.length cw, .slice (some ⟨gm, 0, none⟩) s.length cm, .slice (some ⟨gv, 0, none⟩) st.length cv], 90) :: ([(w.heap.size, m.cells, 29)] ++ L0)) (⟨.slice (some ⟨g12, 0, none⟩) (x.length + 1) c12, 2, 1, (x ++ [y]).length, i64s (x ++ [y])⟩ :: ⟨.slice aw sj.length cwj, 26, 1, sj.length, rwj⟩ :: ⟨.slice am sj.length cmj, 29, 98, sj.length, cellsM (sj.map (·.2))⟩ :: ⟨.slice (some ⟨g8, 0, none⟩) (st.length + 1) c8, 3, 1, (st ++ [s.length]).length, i64s (natsI (st ++ [s.length]))⟩ :: ((rowG rwj (sj.map (·.1))).map Gr.of ++ [⟨.slice (some ⟨gv, 0, none⟩) st.length cv, 3, 1, st.length, i64s (natsI st)⟩]))) := fun W h => by
                      rw [e2'] at h
                      have h2 := h.alloc #[.slice (some ⟨g12, 0, none⟩) (x.length + 1) c12] 26
                      rw [e2']
                      exact h2
                    clear ht3 k62 e2 e2'
                    go_wp2_with (first
                      | ((with_reducible refine st_row ?_ 29 (.tmp 14) (.tmp 69) ?_ w5.heap.size 0 Mx.cells ?_ ?_ ht HIM.out HOM.out ?_); exact rfl; exact rfl; exact rfl; exact rfl; clear ht; generalize (w5.alloc (.cells Try.zeroCells29 29)).setCells w5.heap.size 0 Mx.cells = W6 at *)
                      | (at_builtin; refine Mg.appendP rfl (by rfl) (.tmp 85) (.tmp 87) 35 rfl (HMA.out _ HM6.out) 1 rfl Try.underlying35 hi0 hz0 hz1 rfl hz2 (by decide) 0 rfl rfl rfl rfl (by simp [Value.oneCell']) (by omega) hz3 ?_))
                    intro ga ca W7 hM7 hO7 hg7 hs7
                    (try simp only [List.set_cons_zero, List.set_cons_succ] at hM7)
                    have hH7 : Hdr W7 b9 (.slice (some ⟨ga, 0, none⟩) (sj.length + 1) ca) (.slice am sj.length cmj) (sj.length + 1) gw rw := (HH6.out.below ((Below.refl _ _).alloc (Nat.le_refl _) (.cells #[.slice (some ⟨g12, 0, none⟩) (x.length + 1) c12] 26))).keep ((KeepR.refl _ _ _ _).old1 hO7 (by rw [World.size_alloc]; exact hs7)) (Nat.le_succ _) (by
                      rcases hg7 with h | h
                      · exact .inl h.symm
                      · exact .inr ⟨ga, rfl, by rw [World.size_alloc]; exact h⟩) (.inl rfl)
                    have hM7s := hM7.sub (List.sublist_cons_self _ _)
                    have d0 := (hM7s.at 1 rfl).cell' (i := 0) rfl
                    have f0 := (hM7s.at 1 rfl).free 0
                    have hM8 : Mg B w0 (W7.setCell ⟨b9, 0, none⟩ (.slice (some ⟨ga, 0, none⟩) (sj.length + 1) ca)) ((w5.heap.size, Mx.cells, 29) :: (b9, [.slice (some ⟨ga, 0, none⟩) (sj.length + 1) ca, .slice am sj.length cmj, .slice (some ⟨g8, 0, none⟩) (st.length + 1) c8], 90) :: (w.heap.size + 1 + 1, [.slice none 0 0, .slice none 0 0, .slice none 0 0], 90) :: (w.heap.size + 1, [.slice (some ⟨gw, 0, none⟩) s.length cw, .slice (some ⟨gm, 0, none⟩) s.length cm, .slice (some ⟨gv, 0, none⟩) st.length cv], 90) :: ([(w.heap.size, m.cells, 29)] ++ L0)) (⟨.slice (some ⟨g12, 0, none⟩) (x.length + 1) c12, 2, 1, x.length + 1, i64s (x ++ [y])⟩ :: ⟨.slice (some ⟨ga, 0, none⟩) (sj.length + 1) ca, 26, 1, sj.length + 1, rwj ++ [.slice (some ⟨g12, 0, none⟩) (x.length + 1) c12]⟩ :: ⟨.slice am sj.length cmj, 29, 98, sj.length, cellsM (sj.map (·.2))⟩ :: ⟨.slice (some ⟨g8, 0, none⟩) (st.length + 1) c8, 3, 1, st.length + 1, i64s (natsI (st ++ [s.length]))⟩ :: ((rowG rwj (sj.map (·.1))).map Gr.of ++ [⟨.slice (some ⟨gv, 0, none⟩) st.length cv, 3, 1, st.length, i64s (natsI st)⟩])) := hM7s.setCell 1 rfl 0 (.slice (some ⟨ga, 0, none⟩) (sj.length + 1) ca)
                    have hH8 := hH7.other 0 (.slice (some ⟨ga, 0, none⟩) (sj.length + 1) ca)
                    have k81 := (hM8.at 1 rfl).cell' (i := 1) rfl
                    have k71 := (hM7s.at 1 rfl).cell' (i := 1) rfl
                    have hm8 := hM8.mach 0 rfl
                    have HMY : Hid (∀ X : Array Value, X.toList = Mx.cells → Mg B w0 ((W7.setCell ⟨b9, 0, none⟩ (.slice (some ⟨ga, 0, none⟩) (sj.length + 1) ca)).alloc (.cells X 29)) ((W7.heap.size, Mx.cells, 29) :: (w5.heap.size, Mx.cells, 29) :: (b9, [.slice (some ⟨ga, 0, none⟩) (sj.length + 1) ca, .slice am sj.length cmj, .slice (some ⟨g8, 0, none⟩) (st.length + 1) c8], 90) :: (w.heap.size + 1 + 1, [.slice none 0 0, .slice none 0 0, .slice none 0 0], 90) :: (w.heap.size + 1, [.slice (some ⟨gw, 0, none⟩) s.length cw, .slice (some ⟨gm, 0, none⟩) s.length cm, .slice (some ⟨gv, 0, none⟩) st.length cv], 90) :: ([(w.heap.size, m.cells, 29)] ++ L0)) (⟨.slice (some ⟨g12, 0, none⟩) (x.length + 1) c12, 2, 1, x.length + 1, i64s (x ++ [y])⟩ :: ⟨.slice (some ⟨ga, 0, none⟩) (sj.length + 1) ca, 26, 1, sj.length + 1, rwj ++ [.slice (some ⟨g12, 0, none⟩) (x.length + 1) c12]⟩ :: ⟨.slice am sj.length cmj, 29, 98, sj.length, cellsM (sj.map (·.2))⟩ :: ⟨.slice (some ⟨g8, 0, none⟩) (st.length + 1) c8, 3, 1, st.length + 1, i64s (natsI (st ++ [s.length]))⟩ :: ((rowG rwj (sj.map (·.1))).map Gr.of ++ [⟨.slice (some ⟨gv, 0, none⟩) st.length cv, 3, 1, st.length, i64s (natsI st)⟩]))) := fun X hX => by
                      have h2 := hM8.alloc X 29
                      rw [hX, show (W7.setCell ⟨b9, 0, none⟩ (.slice (some ⟨ga, 0, none⟩) (sj.length + 1) ca)).heap.size = W7.heap.size by simp [World.setCell]] at h2
                      exact h2
                    have HH8 := Lib.hid hH8
                    clear hM7 hM7s hO7 hg7 hs7 hH7 hM8 hH8 k60 k61
                    go_wp2_with (first
                      | ((with_reducible refine ld_mach ?_ (.tmp 14) ?_ w5.heap.size 0 ?_ Mx hm8 hMx ?_); exact rfl; exact rfl; exact rfl)
                      | (generalize hX : List.foldl _ _ (List.zipIdx Mx.cells) = X; have HX : Hid (X.toList = Mx.cells) := (by show _ = _; rw [← hX]; exact fold_zip (by rw [hlen98]; rfl)); clear hX;
                         at_builtin; refine Mg.appendP rfl (by rfl) (.tmp 93) (.tmp 95) 85 rfl (HMY.out X HX.out) 2 rfl Try.underlying85 hj0 hy0 hy1 rfl hy2 (by decide) 0 rfl hlen98 rfl rfl HOM.out (by omega) hy3 ?_))
                    intro gb cb W9 hM9 hO9 hg9 hs9
                    (try simp only [List.set_cons_zero, List.set_cons_succ] at hM9)
                    have hH8 := HH8.out.below ((Below.refl _ _).alloc (Nat.le_refl _) (.cells X 29))
                    have hH9 := hH8.old hO9 HH8.out.vm (by rw [HRW.out]; exact h1)
                    have hH10 : Hdr W9 b9 (.slice (some ⟨ga, 0, none⟩) (sj.length + 1) ca) (.slice (some ⟨gb, 0, none⟩) (sj.length + 1) cb) (sj.length + 1) gw rw := ⟨hH9.cell, hH9.len, fun e => by
                      rcases hg9 with h | h
                      · exact HH8.out.vm (h.trans e)
                      · have h3 : gw < W7.heap.size := by have := HH8.out.lt; simpa [World.setCell] using this
                        have e' : gb = gw := by simpa [Value.ownBlock] using e
                        (try simp [World.setCell] at h)
                        omega, hH9.ne, hH9.lt⟩
                    have hM9s := (hM9.sub (List.sublist_cons_self _ _)).sub (List.sublist_cons_self _ _)
                    have d1 := (hM9s.at 0 rfl).cell' (i := 1) rfl
                    have f1 := (hM9s.at 0 rfl).free 1
                    have HM10 : Hid (GrowM B w0 (W9.setCell ⟨b9, 1, none⟩ (.slice (some ⟨gb, 0, none⟩) (sj.length + 1) cb)) w.heap.size b9 m [.slice (some ⟨gw, 0, none⟩) s.length cw, .slice (some ⟨gm, 0, none⟩) s.length cm, .slice (some ⟨gv, 0, none⟩) st.length cv] (sj ++ [(x ++ [y], Mx)]) (.slice (some ⟨ga, 0, none⟩) (sj.length + 1) ca) (rwj ++ [.slice (some ⟨g12, 0, none⟩) (x.length + 1) c12]) (.slice (some ⟨gb, 0, none⟩) (sj.length + 1) cb) (.slice (some ⟨g8, 0, none⟩) (st.length + 1) c8) (st ++ [s.length]) L0 [⟨.slice (some ⟨gv, 0, none⟩) st.length cv, 3, 1, st.length, i64s (natsI st)⟩]) := by
                      have h2 := hM9s.setCell 0 rfl 1 (.slice (some ⟨gb, 0, none⟩) (sj.length + 1) cb)
                      have p := ballS_new (s := sj) (wd := x ++ [y]) (M := Mx) (v := .slice (some ⟨g12, 0, none⟩) (x.length + 1) c12) (vw := (.slice (some ⟨ga, 0, none⟩) (sj.length + 1) ca)) (vm := (.slice (some ⟨gb, 0, none⟩) (sj.length + 1) cb)) (vs := .slice (some ⟨g8, 0, none⟩) (st.length + 1) c8) (rw := rwj) (st := st ++ [s.length]) (GR := [⟨.slice (some ⟨gv, 0, none⟩) st.length cv, 3, 1, st.length, i64s (natsI st)⟩]) HL.out
                      rw [show (x ++ [y]).length = x.length + 1 by simp, show (st ++ [s.length]).length = st.length + 1 by simp] at p
                      exact h2.permG p
                    have HH10 : Hid (Hdr (W9.setCell ⟨b9, 1, none⟩ (.slice (some ⟨gb, 0, none⟩) (sj.length + 1) cb)) b9 (.slice (some ⟨ga, 0, none⟩) (sj.length + 1) ca) (.slice (some ⟨gb, 0, none⟩) (sj.length + 1) cb) (sj ++ [(x ++ [y], Mx)]).length gw rw) := by
                      have h2 := hH10.other 1 (.slice (some ⟨gb, 0, none⟩) (sj.length + 1) cb)
                      rw [show (sj ++ [(x ++ [y], Mx)]).length = sj.length + 1 by simp]
                      exact h2
                    have HL10 : Hid ((rwj ++ [Value.slice (some ⟨g12, 0, none⟩) (x.length + 1) c12]).length = (sj ++ [(x ++ [y], Mx)]).length) := by show _ = _; simp [HL.out]
                    have HP10 : Hid (∃ R, rwj ++ [Value.slice (some ⟨g12, 0, none⟩) (x.length + 1) c12] = rw ++ R) := by
                      obtain ⟨R, hR⟩ := HP.out
                      exact ⟨R ++ [_], by rw [hR, List.append_assoc]⟩
                    clear hM9 hM9s hO9 hg9 hs9 hH8 hH9 hH10 k81 k71 d0 f0 hm8 HMY
                    go_wp2_with fail
                    go_roundw
                    case rel => exact ⟨k + 1, _, _, _, _, by omega, by go_num, HS7.out, HL10.out, HP10.out, HM10.out, HH10.out⟩
                    case measure => simp [intOf] <;> omega
            · obtain ⟨i0, iz, hi0, hz0, hz1, hz2, hz3⟩ := info_i64
              refine region_A (fun W => W.cell? ⟨w.heap.size + 1, 0, none⟩ = some (.slice (some ⟨gw, 0, none⟩) s.length cw) ∧ W.cell? ⟨gw, j, none⟩ = some (.slice ar x.length cr) ∧ W.cell? ⟨bb, off + k, none⟩ = some (.int .i64 y)) [] 14 (fun W => Mg B w0 W ([(b9, [vwj, vmj, .slice (some ⟨g8, 0, none⟩) (st.length + 1) c8], 90), (w.heap.size + 1 + 1, [.slice none 0 0, .slice none 0 0, .slice none 0 0], 90), (w.heap.size + 1, [.slice (some ⟨gw, 0, none⟩) s.length cw, .slice (some ⟨gm, 0, none⟩) s.length cm, .slice (some ⟨gv, 0, none⟩) st.length cv], 90), (w.heap.size, m.cells, 29)] ++ L0) (ballS sj vwj rwj vmj (.slice (some ⟨g8, 0, none⟩) (st.length + 1) c8) (st ++ [s.length]) ++ [⟨.slice (some ⟨gv, 0, none⟩) st.length cv, 3, 1, st.length, i64s (natsI st)⟩]) ∧ Hdr W b9 vwj vmj sj.length gw rw) rfl HMX.out HMe.out (fun W h => HSD.out W [] _ h.1 h.2) (fun W hMW hU => ?_)
              obtain ⟨hM, hh⟩ := hMW
              clear HMe
              (refine AnyS.take (i := 0) rfl (by kernel_rfl) (by kernel_rfl) (by kernel_rfl) (by rfl) (fun _ _ _ h => h) (by rfl) (by intro w; go_simp; with_reducible rfl) hU (fun hU => ?_); (try simp only [Act.put, List.setIfInBounds_toArray, List.set_cons_zero, List.set_cons_succ]); refine AnyS.take (i := 1) rfl (by kernel_rfl) (by kernel_rfl) (by kernel_rfl) (by rfl) (fun _ _ _ h => h) (by rfl) (by intro w; go_simp; with_reducible rfl) hU (fun hU => ?_); (try simp only [Act.put, List.setIfInBounds_toArray, List.set_cons_zero, List.set_cons_succ]))
              (refine AnyS.takeS (i := 2) rfl (by kernel_rfl) (by kernel_rfl) (by kernel_rfl) (by rfl) (by kernel_rfl) (by kernel_rfl) (fun _ _ _ h => h) (by rfl) (by intro W hSw; have h1 := hSw.1; clear hSw; go_simp; with_reducible rfl) hU (fun hU => ?_); (try simp only [Act.put, List.setIfInBounds_toArray, List.set_cons_zero, List.set_cons_succ]))
              (refine AnyS.take (i := 3) rfl (by kernel_rfl) (by kernel_rfl) (by kernel_rfl) (by rfl) (fun _ _ _ h => h) (by rfl) (by intro w; go_simp; with_reducible rfl) hU (fun hU => ?_); (try simp only [Act.put, List.setIfInBounds_toArray, List.set_cons_zero, List.set_cons_succ]); refine AnyS.take (i := 4) rfl (by kernel_rfl) (by kernel_rfl) (by kernel_rfl) (by rfl) (fun _ _ _ h => h) (by rfl) (by intro w; go_simp; with_reducible rfl) hU (fun hU => ?_); (try simp only [Act.put, List.setIfInBounds_toArray, List.set_cons_zero, List.set_cons_succ]))
              (refine AnyS.takeS (i := 5) rfl (by kernel_rfl) (by kernel_rfl) (by kernel_rfl) (by rfl) (by kernel_rfl) (by kernel_rfl) (fun _ _ _ h => h) (by rfl) (by intro W hSw; have h1 := hSw.2.1; clear hSw; go_simp; with_reducible rfl) hU (fun hU => ?_); (try simp only [Act.put, List.setIfInBounds_toArray, List.set_cons_zero, List.set_cons_succ]))
              (refine AnyS.take (i := 7) rfl (by kernel_rfl) (by kernel_rfl) (by kernel_rfl) (by rfl) (fun _ _ _ h => h) (by rfl) (by intro w; go_simp; with_reducible rfl) hU (fun hU => ?_); (try simp only [Act.put, List.setIfInBounds_toArray, List.set_cons_zero, List.set_cons_succ]); refine AnyS.take (i := 8) rfl (by kernel_rfl) (by kernel_rfl) (by kernel_rfl) (by rfl) (fun _ _ _ h => h) (by rfl) (by intro w; go_simp; with_reducible rfl) hU (fun hU => ?_); (try simp only [Act.put, List.setIfInBounds_toArray, List.set_cons_zero, List.set_cons_succ]); refine AnyS.take (i := 9) rfl (by kernel_rfl) (by kernel_rfl) (by kernel_rfl) (by rfl) (fun _ _ _ h => h) (by rfl) (by intro w; go_simp; with_reducible rfl) hU (fun hU => ?_); (try simp only [Act.put, List.setIfInBounds_toArray, List.set_cons_zero, List.set_cons_succ]))
              (refine AnyS.takeS (i := 10) rfl (by kernel_rfl) (by kernel_rfl) (by kernel_rfl) (by rfl) (by kernel_rfl) (by kernel_rfl) (fun _ _ _ h => h) (by rfl) (by intro W hSw; have h1 := hSw.2.2; clear hSw; go_simp; with_reducible rfl) hU (fun hU => ?_); (try simp only [Act.put, List.setIfInBounds_toArray, List.set_cons_zero, List.set_cons_succ]))
              refine AnyS.branch (rs := [6, 11]) (by kernel_rfl) (by simp) (AllS.cons rfl (fun K hK => ?oA) (AllS.cons rfl (fun K hK => ?oB) AllS.nil))
              case' oA =>
                go_simp
                refine (HOW.out W _ hM).mono ?_
                rintro e W1 ⟨v6, rfl, hb, hO⟩
                have hM1 := hM.callOwn hb hO
                have hh1 := hh.below hb
                have HV6 : Hid (v6.ownBlock ≠ some gw) := fun e => by
                  have h1 := (World.ownsRow.lt hO gw e).1
                  have h2 := hh.lt
                  omega
                refine hK.out _ _ (.inl (HSD.out W1 [] _ hM1 hh1)) (fun hU => ?_)
                clear hK K hM hh hb hO
                (try simp only [Act.put, List.setIfInBounds_toArray, List.set_cons_zero, List.set_cons_succ])
                (refine AnyS.branch (rs := [11]) (by kernel_rfl) (List.cons_ne_nil _ _) ?_; refine AllS.cons rfl ?_ AllS.nil; intro K hK)
                have hM2 : Mg _ _ _ ((W1.heap.size, [.int .i64 y], 2) :: _) _ := hM1.alloc #[.int .i64 y] 2
                have hh2 := hh1.below ((Below.refl _ _).alloc (Nat.le_refl _) (.cells #[.int .i64 y] 2))
                go_simp
                refine hK.out _ _ (.inl (HSD.out _ [_] _ hM2 hh2)) (fun hU => ?_)
                clear hK K hM1 hh1
                (try simp only [Act.put, List.setIfInBounds_toArray, List.set_cons_zero, List.set_cons_succ])
                generalize W1.alloc (.cells #[.int .i64 y] 2) = W2 at *
                generalize W1.heap.size = b11 at *
              case' oB =>
                have hM1 : Mg _ _ _ ((W.heap.size, [.int .i64 y], 2) :: _) _ := hM.alloc #[.int .i64 y] 2
                have hh1 := hh.below ((Below.refl _ _).alloc (Nat.le_refl _) (.cells #[.int .i64 y] 2))
                go_simp
                refine hK.out _ _ (.inl (HSD.out _ [_] _ hM1 hh1)) (fun hU => ?_)
                clear hK K hM hh
                (try simp only [Act.put, List.setIfInBounds_toArray, List.set_cons_zero, List.set_cons_succ])
                generalize W.alloc (.cells #[.int .i64 y] 2) = W1 at *
                generalize W.heap.size = b11 at *
                (refine AnyS.branch (rs := [6]) (by kernel_rfl) (List.cons_ne_nil _ _) ?_; refine AllS.cons rfl ?_ AllS.nil; intro K hK)
                go_simp
                refine (HOW.out W1 _ hM1).mono ?_
                rintro e W2 ⟨v6, rfl, hb, hO⟩
                have hM2 := hM1.callOwn hb hO
                have hh2 := hh1.below hb
                have HV6 : Hid (v6.ownBlock ≠ some gw) := fun e => by
                  have h1 := (World.ownsRow.lt hO gw e).1
                  have h2 := hh1.lt
                  omega
                refine hK.out _ _ (.inl (HSD.out W2 [_] _ hM2 hh2)) (fun hU => ?_)
                clear hK K hM1 hh1 hb hO
                (try simp only [Act.put, List.setIfInBounds_toArray, List.set_cons_zero, List.set_cons_succ])
              all_goals
                (refine AnyS.branch (rs := [12]) (by kernel_rfl) (List.cons_ne_nil _ _) ?_; refine AllS.cons rfl ?_ AllS.nil; intro K hK)
                refine Mg.appendQ (by rfl) (.tmp 55) (.tmp 60) 26 rfl hM2 0 rfl Try.underlying26 hi0 hz0 hz1 rfl hz2 (by decide) 0 rfl rfl rfl rfl (by simp [Value.oneCell']) (by omega) hz3 (fun g12 c12 W3 hM3 hO3 hg3 hs3 => ?_)
                (try simp only [List.set_cons_zero] at hM3)
                have hh3 := hh2.old hO3 HV6.out (by rw [HRW.out]; exact h1)
                have hM4 := hM3.sub (List.sublist_cons_self _ _)
                refine hK.out _ _ (.inl (HSD.out W3 [] _ hM4 hh3)) (fun hU => ?_)
                clear hK K hM2 hM3 hO3 hg3 hs3 hh2
                (try simp only [Act.put, List.setIfInBounds_toArray, List.set_cons_zero, List.set_cons_succ])
                (refine AnyS.take (i := 13) rfl (by kernel_rfl) (by kernel_rfl) (by kernel_rfl) (by rfl) (fun _ _ _ h => h) (by rfl) (by intro w; go_simp; with_reducible rfl) hU (fun hU => ?_); (try simp only [Act.put, List.setIfInBounds_toArray, List.set_cons_zero, List.set_cons_succ]))
                refine AnyS.done (by kernel_rfl) ?_ _
                have e1 : i64s (x ++ [y]) = i64s x ++ [.int .i64 y] := by simp [i64s]
                have e2 : (x ++ [y]).length = x.length + 1 := by simp
                exact ⟨v6, b11, g12, c12, rfl, by rw [e1, e2]; exact hM4, hh3⟩
          · have hk' : k = gs.length := by omega
            have k2 : ¬ ((k : Int) < (gs.length : Int)) := by omega
            have HS3 : Hid (growS m (askG gs (ws.take (i + 1))) (.ok s) = .ok sj) := by show _ = _; rw [← HAR.out, ← hk']; exact HS.out
            have HJ1 : Hid (j + 1 = f + (i + 1)) := by show _ = _; rw [HJ.out]; omega
            have HM := Lib.hid hM
            clear hM hk'
            go_wp2_with fail
            go_roundw
            case rel => exact ⟨i + 1, j + 1, sj, vwj, vmj, rwj, by omega, HJ1.out, by go_num, HS3.out, HL.out, HP.out, HM.out, HH.out⟩
            case measure => simp [intOf] <;> omega
      · have hi' : i = s.length - f := by omega
        have i2 : ¬ ((j : Int) < (s.length : Int)) := by have := HJ.out; omega
        have hSE : Hid (stepB m gs (.ok (s, st)) = .ok (si, st ++ [s.length])) := by
          refine stepB_good ?_
          rw [← HF.out, ← HWS.out]
          have := HS.out
          rw [hi', ← HWL.out, List.take_length] at this
          exact this
        have k0 := (hM.at 0 rfl).cell' (i := 0) rfl
        have k1 := (hM.at 0 rfl).cell' (i := 1) rfl
        have k2 := (hM.at 0 rfl).cell' (i := 2) rfl
        have ht := (hM.at 1 rfl).there 0 3 (by simp)
        have hN := hM.setAll 1 rfl (vs := [vwi, vmi, .slice (some ⟨g8, 0, none⟩) (st.length + 1) c8]) rfl
        have HB := Lib.hid (hN.at 1 rfl)
        have HN := Lib.hid hN
        have HONE : Hid (∀ v ∈ ([vwi, vmi, .slice (some ⟨g8, 0, none⟩) (st.length + 1) c8] : List Value), v.oneCell' = true) := by
          obtain ⟨a1, c1, rfl⟩ := HM.out.sl 0 (v := vwi) rfl
          obtain ⟨a2, c2, rfl⟩ := HM.out.sl 1 (v := vmi) rfl
          show ∀ v ∈ _, _
          simp [Value.oneCell']
        clear hM HM hi' hN
        go_wp2_with ((with_reducible refine st_row ?_ 90 (.tmp 6) (.tmp 99) ?_ (w.heap.size + 1 + 1) 0 [vwi, vmi, .slice (some ⟨g8, 0, none⟩) (st.length + 1) c8] ?_ ?_ ?_ (HI3.out _ _ _) ?_ ?_); exact rfl; exact rfl; exact rfl; exact rfl; exact ht; exact HONE.out)
        refine bodyPost_ret (v := .tuple #[.agg #[vwi, vmi, .slice (some ⟨g8, 0, none⟩) (st.length + 1) c8], .int .i64 0]) (results_ct Try.results80 _ _ (w.heap.size + 1 + 1) 90 #[vwi, vmi, .slice (some ⟨g8, 0, none⟩) (st.length + 1) c8] (0, 0) (.struct _) rfl HB.out Try.underlying90 rfl (HI3.out vwi vmi (.slice (some ⟨g8, 0, none⟩) (st.length + 1) c8))) rfl ?_
        rw [hSE.out]
        exact ⟨_, _, _, _, rfl, HL.out, ((HN.out.sub (L' := L0) ((List.sublist_cons_self _ _).trans ((List.sublist_cons_self _ _).trans ((List.sublist_cons_self _ _).trans (List.sublist_cons_self _ _))))).subG (List.sublist_append_left _ _))⟩
  · refine region_A (fun W => W.rangeAt (w.heap.size + 1) 0 [.slice (some ⟨gw, 0, none⟩) s.length cw, .slice (some ⟨gm, 0, none⟩) s.length cm] ∧ W.cell? ⟨w.heap.size + 1, 2, none⟩ = some (.slice (some ⟨gv, 0, none⟩) st.length cv)) [11] 12 (fun W => Mg B w0 W ([(w.heap.size + 1 + 1, [.slice none 0 0, .slice none 0 0, .slice none 0 0], 90), (w.heap.size + 1, [.slice (some ⟨gw, 0, none⟩) s.length cw, .slice (some ⟨gm, 0, none⟩) s.length cm, .slice (some ⟨gv, 0, none⟩) st.length cv], 90), (w.heap.size, m.cells, 29)] ++ L0) (ballS s (.slice (some ⟨gw, 0, none⟩) s.length cw) rw (.slice (some ⟨gm, 0, none⟩) s.length cm) (.slice (some ⟨gv, 0, none⟩) st.length cv) st ++ [])) rfl HMX.out (HMD.out 1) (fun W h => HS.out W [] _ h) (fun W0 hM hU => ?_)
    clear HMD
    (refine AnyS.take (i := 0) rfl (by kernel_rfl) (by kernel_rfl) (by kernel_rfl) (by rfl) (fun _ _ _ h => h) (by rfl) (by intro w; go_simp; with_reducible rfl) hU (fun hU => ?_); (try simp only [Act.put, List.setIfInBounds_toArray, List.set_cons_zero, List.set_cons_succ]))
    (refine AnyS.takeS (i := 1) rfl (by kernel_rfl) (by kernel_rfl) (by kernel_rfl) (by rfl) (by kernel_rfl) (by kernel_rfl) (fun _ _ _ h => h) (by rfl) (fun W hW => run_ld Try.underlying87 rfl (HI2.out _ _) (.tmp 20) rfl rfl hW.1) hU (fun hU => ?_); (try simp only [Act.put, List.setIfInBounds_toArray, List.set_cons_zero, List.set_cons_succ]))
    (refine AnyS.take (i := 3) rfl (by kernel_rfl) (by kernel_rfl) (by kernel_rfl) (by rfl) (fun _ _ _ h => h) (by rfl) (by intro w; go_simp; with_reducible rfl) hU (fun hU => ?_); (try simp only [Act.put, List.setIfInBounds_toArray, List.set_cons_zero, List.set_cons_succ]))
    (refine AnyS.takeS (i := 4) rfl (by kernel_rfl) (by kernel_rfl) (by kernel_rfl) (by rfl) (by kernel_rfl) (by kernel_rfl) (fun _ _ _ h => h) (by rfl) (by intro W hSw; have h1 := hSw.2; clear hSw; go_simp; with_reducible rfl) hU (fun hU => ?_); (try simp only [Act.put, List.setIfInBounds_toArray, List.set_cons_zero, List.set_cons_succ]))
    (refine AnyS.take (i := 6) rfl (by kernel_rfl) (by kernel_rfl) (by kernel_rfl) (by rfl) (fun _ _ _ h => h) (by rfl) (by intro w; go_simp; with_reducible rfl) hU (fun hU => ?_); (try simp only [Act.put, List.setIfInBounds_toArray, List.set_cons_zero, List.set_cons_succ]))
    refine AnyS.branch (rs := [2, 7, 10]) (by kernel_rfl) (by simp) (AllS.cons rfl (fun K hK => ?_) (AllS.cons rfl (fun K hK => ?_) (AllS.cons rfl (fun K hK => ?_) AllS.nil)))
    · skip
      replace hM := hM.newOwn #[] 3 1 0 rfl (by omega)
      go_simp
      refine hK.out _ _ (.inl (HS.out _ [] _ hM)) (fun hU => ?_)
      clear hK K 
      (try simp only [Act.put, List.setIfInBounds_toArray, List.set_cons_zero, List.set_cons_succ, Nat.zero_add])
      generalize W0.alloc (.cells #[] 3) = W1 at *
      generalize W0.heap.size = b2 at *
      refine AnyS.branch (rs := [5, 7, 10]) (by kernel_rfl) (by simp) (AllS.cons rfl (fun K hK => ?_) (AllS.cons rfl (fun K hK => ?_) (AllS.cons rfl (fun K hK => ?_) AllS.nil)))
      · skip
        refine Mg.appendRowQ (by rfl) (.tmp 22) (.tmp 24) 88 rfl hM 0 rfl Try.underlying88 hi0 hz0 hz1 rfl hz2 (by decide) 3 rfl (by simp [i64s, natsI]) (by omega) rfl rfl (i64s_ones _) (by omega) hz3 (fun g5 c5 W2 hN hO5 hs5 => ?_)
        (try simp only [List.set_cons_zero, Nat.zero_add, List.nil_append] at hN)
        refine hK.out _ _ (.inl (HS.out _ [] _ hN)) (fun hU => ?_)
        clear hK K hM hO5 hs5
        (try simp only [Act.put, List.setIfInBounds_toArray, List.set_cons_zero, List.set_cons_succ, Nat.zero_add])
        have hM := hN
        clear hN
        refine AnyS.branch (rs := [7, 10]) (by kernel_rfl) (by simp) (AllS.cons rfl (fun K hK => ?_) (AllS.cons rfl (fun K hK => ?_) AllS.nil))
        · skip
          replace hM : Mg _ _ _ ((W2.heap.size, [.int .i64 (s.length : Int)], 3) :: _) _ := hM.alloc #[.int .i64 (s.length : Int)] 3
          go_simp
          refine hK.out _ _ (.inl (HS.out _ [_] _ hM)) (fun hU => ?_)
          clear hK K 
          (try simp only [Act.put, List.setIfInBounds_toArray, List.set_cons_zero, List.set_cons_succ, Nat.zero_add])
          generalize W2.alloc (.cells #[.int .i64 (s.length : Int)] 3) = W3 at *
          generalize W2.heap.size = b7 at *
          refine AnyS.branch (rs := [8, 10]) (by kernel_rfl) (by simp) (AllS.cons rfl (fun K hK => ?_) (AllS.cons rfl (fun K hK => ?_) AllS.nil))
          · skip
            refine Mg.appendQ (by rfl) (.tmp 25) (.tmp 27) 88 rfl hM 0 rfl Try.underlying88 hi0 hz0 hz1 rfl hz2 (by decide) 0 rfl rfl rfl rfl (by simp [Value.oneCell']) (by omega) hz3 (fun g8 c8 W4 hN hO8 hg8 hs8 => ?_)
            (try simp only [List.set_cons_zero] at hN)
            refine hK.out _ _ (.inl (HS.out _ [_] _ hN)) (fun hU => ?_)
            clear hK K hM hO8 hg8 hs8
            (try simp only [Act.put, List.setIfInBounds_toArray, List.set_cons_zero, List.set_cons_succ, Nat.zero_add])
            have hM := hN
            clear hN
            (refine AnyS.take (i := 9) rfl (by kernel_rfl) (by kernel_rfl) (by kernel_rfl) (by rfl) (fun _ _ _ h => h) (by rfl) (by intro w; go_simp; with_reducible rfl) hU (fun hU => ?_); (try simp only [Act.put, List.setIfInBounds_toArray, List.set_cons_zero, List.set_cons_succ]))
            (refine AnyS.branch (rs := [10]) (by kernel_rfl) (List.cons_ne_nil _ _) ?_; refine AllS.cons rfl ?_ AllS.nil; intro K hK)
            replace hM : Mg _ _ _ ((W4.heap.size, [.slice none 0 0, .slice none 0 0, .slice none 0 0], 90) :: _) _ := hM.alloc #[.slice none 0 0, .slice none 0 0, .slice none 0 0] 90
            go_simp
            refine hK.out _ _ (.inl (HS.out _ [_, _] _ hM)) (fun hU => ?_)
            clear hK K 
            (try simp only [Act.put, List.setIfInBounds_toArray, List.set_cons_zero, List.set_cons_succ, Nat.zero_add])
            generalize W4.alloc (.cells #[.slice none 0 0, .slice none 0 0, .slice none 0 0] 90) = W5 at *
            generalize W4.heap.size = b9 at *
            replace hM := hM.permL (List.Perm.swap _ _ _)
            replace hM := hM.sub (List.sublist_cons_self _ _)
            (refine AnyS.branch (rs := [11]) (by kernel_rfl) (List.cons_ne_nil _ _) ?_; refine AllS.cons rfl ?_ AllS.nil; intro K hK)
            refine st_rowQ (by rfl) 90 (.tmp 9) (.tmp 29) rfl b9 0 [.slice (some ⟨gw, 0, none⟩) s.length cw, .slice (some ⟨gm, 0, none⟩) s.length cm, .slice (some ⟨g8, 0, none⟩) (st.length + 1) c8] rfl rfl ((hM.at 0 rfl).there 0 3 (by simp)) (HI3.out _ _ _) (by simp [Value.oneCell']) ?_
            have hN := hM.setAll 0 rfl (vs := [.slice (some ⟨gw, 0, none⟩) s.length cw, .slice (some ⟨gm, 0, none⟩) s.length cm, .slice (some ⟨g8, 0, none⟩) (st.length + 1) c8]) rfl
            refine hK.out _ _ (.inr ⟨11, by simp, by rfl⟩) (fun hU => ?_)
            clear hK K hM
            refine AnyS.done (by kernel_rfl) ?_ _
            exact ⟨b2, g5, c5, b7, g8, c8, b9, rfl, HLF.out _ _ _ _ hN⟩
          · skip
            replace hM : Mg _ _ _ ((W3.heap.size, [.slice none 0 0, .slice none 0 0, .slice none 0 0], 90) :: _) _ := hM.alloc #[.slice none 0 0, .slice none 0 0, .slice none 0 0] 90
            go_simp
            refine hK.out _ _ (.inl (HS.out _ [_, _] _ hM)) (fun hU => ?_)
            clear hK K 
            (try simp only [Act.put, List.setIfInBounds_toArray, List.set_cons_zero, List.set_cons_succ, Nat.zero_add])
            generalize W3.alloc (.cells #[.slice none 0 0, .slice none 0 0, .slice none 0 0] 90) = W4 at *
            generalize W3.heap.size = b9 at *
            replace hM := hM.permL (List.Perm.swap _ _ _)
            (refine AnyS.branch (rs := [8]) (by kernel_rfl) (List.cons_ne_nil _ _) ?_; refine AllS.cons rfl ?_ AllS.nil; intro K hK)
            refine Mg.appendQ (by rfl) (.tmp 25) (.tmp 27) 88 rfl hM 0 rfl Try.underlying88 hi0 hz0 hz1 rfl hz2 (by decide) 0 rfl rfl rfl rfl (by simp [Value.oneCell']) (by omega) hz3 (fun g8 c8 W5 hN hO8 hg8 hs8 => ?_)
            (try simp only [List.set_cons_zero] at hN)
            refine hK.out _ _ (.inl (HS.out _ [_, _] _ hN)) (fun hU => ?_)
            clear hK K hM hO8 hg8 hs8
            (try simp only [Act.put, List.setIfInBounds_toArray, List.set_cons_zero, List.set_cons_succ, Nat.zero_add])
            have hM := hN
            clear hN
            (refine AnyS.take (i := 9) rfl (by kernel_rfl) (by kernel_rfl) (by kernel_rfl) (by rfl) (fun _ _ _ h => h) (by rfl) (by intro w; go_simp; with_reducible rfl) hU (fun hU => ?_); (try simp only [Act.put, List.setIfInBounds_toArray, List.set_cons_zero, List.set_cons_succ]))
            replace hM := hM.sub (List.sublist_cons_self _ _)
            (refine AnyS.branch (rs := [11]) (by kernel_rfl) (List.cons_ne_nil _ _) ?_; refine AllS.cons rfl ?_ AllS.nil; intro K hK)
            refine st_rowQ (by rfl) 90 (.tmp 9) (.tmp 29) rfl b9 0 [.slice (some ⟨gw, 0, none⟩) s.length cw, .slice (some ⟨gm, 0, none⟩) s.length cm, .slice (some ⟨g8, 0, none⟩) (st.length + 1) c8] rfl rfl ((hM.at 0 rfl).there 0 3 (by simp)) (HI3.out _ _ _) (by simp [Value.oneCell']) ?_
            have hN := hM.setAll 0 rfl (vs := [.slice (some ⟨gw, 0, none⟩) s.length cw, .slice (some ⟨gm, 0, none⟩) s.length cm, .slice (some ⟨g8, 0, none⟩) (st.length + 1) c8]) rfl
            refine hK.out _ _ (.inr ⟨11, by simp, by rfl⟩) (fun hU => ?_)
            clear hK K hM
            refine AnyS.done (by kernel_rfl) ?_ _
            exact ⟨b2, g5, c5, b7, g8, c8, b9, rfl, HLF.out _ _ _ _ hN⟩
        · skip
          replace hM : Mg _ _ _ ((W2.heap.size, [.slice none 0 0, .slice none 0 0, .slice none 0 0], 90) :: _) _ := hM.alloc #[.slice none 0 0, .slice none 0 0, .slice none 0 0] 90
          go_simp
          refine hK.out _ _ (.inl (HS.out _ [_] _ hM)) (fun hU => ?_)
          clear hK K 
          (try simp only [Act.put, List.setIfInBounds_toArray, List.set_cons_zero, List.set_cons_succ, Nat.zero_add])
          generalize W2.alloc (.cells #[.slice none 0 0, .slice none 0 0, .slice none 0 0] 90) = W3 at *
          generalize W2.heap.size = b9 at *
          (refine AnyS.branch (rs := [7]) (by kernel_rfl) (List.cons_ne_nil _ _) ?_; refine AllS.cons rfl ?_ AllS.nil; intro K hK)
          replace hM : Mg _ _ _ ((W3.heap.size, [.int .i64 (s.length : Int)], 3) :: _) _ := hM.alloc #[.int .i64 (s.length : Int)] 3
          go_simp
          refine hK.out _ _ (.inl (HS.out _ [_, _] _ hM)) (fun hU => ?_)
          clear hK K 
          (try simp only [Act.put, List.setIfInBounds_toArray, List.set_cons_zero, List.set_cons_succ, Nat.zero_add])
          generalize W3.alloc (.cells #[.int .i64 (s.length : Int)] 3) = W4 at *
          generalize W3.heap.size = b7 at *
          (refine AnyS.branch (rs := [8]) (by kernel_rfl) (List.cons_ne_nil _ _) ?_; refine AllS.cons rfl ?_ AllS.nil; intro K hK)
          refine Mg.appendQ (by rfl) (.tmp 25) (.tmp 27) 88 rfl hM 0 rfl Try.underlying88 hi0 hz0 hz1 rfl hz2 (by decide) 0 rfl rfl rfl rfl (by simp [Value.oneCell']) (by omega) hz3 (fun g8 c8 W5 hN hO8 hg8 hs8 => ?_)
          (try simp only [List.set_cons_zero] at hN)
          refine hK.out _ _ (.inl (HS.out _ [_, _] _ hN)) (fun hU => ?_)
          clear hK K hM hO8 hg8 hs8
          (try simp only [Act.put, List.setIfInBounds_toArray, List.set_cons_zero, List.set_cons_succ, Nat.zero_add])
          have hM := hN
          clear hN
          (refine AnyS.take (i := 9) rfl (by kernel_rfl) (by kernel_rfl) (by kernel_rfl) (by rfl) (fun _ _ _ h => h) (by rfl) (by intro w; go_simp; with_reducible rfl) hU (fun hU => ?_); (try simp only [Act.put, List.setIfInBounds_toArray, List.set_cons_zero, List.set_cons_succ]))
          replace hM := hM.sub (List.sublist_cons_self _ _)
          (refine AnyS.branch (rs := [11]) (by kernel_rfl) (List.cons_ne_nil _ _) ?_; refine AllS.cons rfl ?_ AllS.nil; intro K hK)
          refine st_rowQ (by rfl) 90 (.tmp 9) (.tmp 29) rfl b9 0 [.slice (some ⟨gw, 0, none⟩) s.length cw, .slice (some ⟨gm, 0, none⟩) s.length cm, .slice (some ⟨g8, 0, none⟩) (st.length + 1) c8] rfl rfl ((hM.at 0 rfl).there 0 3 (by simp)) (HI3.out _ _ _) (by simp [Value.oneCell']) ?_
          have hN := hM.setAll 0 rfl (vs := [.slice (some ⟨gw, 0, none⟩) s.length cw, .slice (some ⟨gm, 0, none⟩) s.length cm, .slice (some ⟨g8, 0, none⟩) (st.length + 1) c8]) rfl
          refine hK.out _ _ (.inr ⟨11, by simp, by rfl⟩) (fun hU => ?_)
          clear hK K hM
          refine AnyS.done (by kernel_rfl) ?_ _
          exact ⟨b2, g5, c5, b7, g8, c8, b9, rfl, HLF.out _ _ _ _ hN⟩
      · skip
        replace hM : Mg _ _ _ ((W1.heap.size, [.int .i64 (s.length : Int)], 3) :: _) _ := hM.alloc #[.int .i64 (s.length : Int)] 3
        go_simp
        refine hK.out _ _ (.inl (HS.out _ [_] _ hM)) (fun hU => ?_)
        clear hK K 
        (try simp only [Act.put, List.setIfInBounds_toArray, List.set_cons_zero, List.set_cons_succ, Nat.zero_add])
        generalize W1.alloc (.cells #[.int .i64 (s.length : Int)] 3) = W2 at *
        generalize W1.heap.size = b7 at *
        refine AnyS.branch (rs := [5, 10]) (by kernel_rfl) (by simp) (AllS.cons rfl (fun K hK => ?_) (AllS.cons rfl (fun K hK => ?_) AllS.nil))
        · skip
          refine Mg.appendRowQ (by rfl) (.tmp 22) (.tmp 24) 88 rfl hM 0 rfl Try.underlying88 hi0 hz0 hz1 rfl hz2 (by decide) 3 rfl (by simp [i64s, natsI]) (by omega) rfl rfl (i64s_ones _) (by omega) hz3 (fun g5 c5 W3 hN hO5 hs5 => ?_)
          (try simp only [List.set_cons_zero, Nat.zero_add, List.nil_append] at hN)
          refine hK.out _ _ (.inl (HS.out _ [_] _ hN)) (fun hU => ?_)
          clear hK K hM hO5 hs5
          (try simp only [Act.put, List.setIfInBounds_toArray, List.set_cons_zero, List.set_cons_succ, Nat.zero_add])
          have hM := hN
          clear hN
          refine AnyS.branch (rs := [8, 10]) (by kernel_rfl) (by simp) (AllS.cons rfl (fun K hK => ?_) (AllS.cons rfl (fun K hK => ?_) AllS.nil))
          · skip
            refine Mg.appendQ (by rfl) (.tmp 25) (.tmp 27) 88 rfl hM 0 rfl Try.underlying88 hi0 hz0 hz1 rfl hz2 (by decide) 0 rfl rfl rfl rfl (by simp [Value.oneCell']) (by omega) hz3 (fun g8 c8 W4 hN hO8 hg8 hs8 => ?_)
            (try simp only [List.set_cons_zero] at hN)
            refine hK.out _ _ (.inl (HS.out _ [_] _ hN)) (fun hU => ?_)
            clear hK K hM hO8 hg8 hs8
            (try simp only [Act.put, List.setIfInBounds_toArray, List.set_cons_zero, List.set_cons_succ, Nat.zero_add])
            have hM := hN
            clear hN
            (refine AnyS.take (i := 9) rfl (by kernel_rfl) (by kernel_rfl) (by kernel_rfl) (by rfl) (fun _ _ _ h => h) (by rfl) (by intro w; go_simp; with_reducible rfl) hU (fun hU => ?_); (try simp only [Act.put, List.setIfInBounds_toArray, List.set_cons_zero, List.set_cons_succ]))
            (refine AnyS.branch (rs := [10]) (by kernel_rfl) (List.cons_ne_nil _ _) ?_; refine AllS.cons rfl ?_ AllS.nil; intro K hK)
            replace hM : Mg _ _ _ ((W4.heap.size, [.slice none 0 0, .slice none 0 0, .slice none 0 0], 90) :: _) _ := hM.alloc #[.slice none 0 0, .slice none 0 0, .slice none 0 0] 90
            go_simp
            refine hK.out _ _ (.inl (HS.out _ [_, _] _ hM)) (fun hU => ?_)
            clear hK K 
            (try simp only [Act.put, List.setIfInBounds_toArray, List.set_cons_zero, List.set_cons_succ, Nat.zero_add])
            generalize W4.alloc (.cells #[.slice none 0 0, .slice none 0 0, .slice none 0 0] 90) = W5 at *
            generalize W4.heap.size = b9 at *
            replace hM := hM.permL (List.Perm.swap _ _ _)
            replace hM := hM.sub (List.sublist_cons_self _ _)
            (refine AnyS.branch (rs := [11]) (by kernel_rfl) (List.cons_ne_nil _ _) ?_; refine AllS.cons rfl ?_ AllS.nil; intro K hK)
            refine st_rowQ (by rfl) 90 (.tmp 9) (.tmp 29) rfl b9 0 [.slice (some ⟨gw, 0, none⟩) s.length cw, .slice (some ⟨gm, 0, none⟩) s.length cm, .slice (some ⟨g8, 0, none⟩) (st.length + 1) c8] rfl rfl ((hM.at 0 rfl).there 0 3 (by simp)) (HI3.out _ _ _) (by simp [Value.oneCell']) ?_
            have hN := hM.setAll 0 rfl (vs := [.slice (some ⟨gw, 0, none⟩) s.length cw, .slice (some ⟨gm, 0, none⟩) s.length cm, .slice (some ⟨g8, 0, none⟩) (st.length + 1) c8]) rfl
            refine hK.out _ _ (.inr ⟨11, by simp, by rfl⟩) (fun hU => ?_)
            clear hK K hM
            refine AnyS.done (by kernel_rfl) ?_ _
            exact ⟨b2, g5, c5, b7, g8, c8, b9, rfl, HLF.out _ _ _ _ hN⟩
          · skip
            replace hM : Mg _ _ _ ((W3.heap.size, [.slice none 0 0, .slice none 0 0, .slice none 0 0], 90) :: _) _ := hM.alloc #[.slice none 0 0, .slice none 0 0, .slice none 0 0] 90
            go_simp
            refine hK.out _ _ (.inl (HS.out _ [_, _] _ hM)) (fun hU => ?_)
            clear hK K 
            (try simp only [Act.put, List.setIfInBounds_toArray, List.set_cons_zero, List.set_cons_succ, Nat.zero_add])
            generalize W3.alloc (.cells #[.slice none 0 0, .slice none 0 0, .slice none 0 0] 90) = W4 at *
            generalize W3.heap.size = b9 at *
            replace hM := hM.permL (List.Perm.swap _ _ _)
            (refine AnyS.branch (rs := [8]) (by kernel_rfl) (List.cons_ne_nil _ _) ?_; refine AllS.cons rfl ?_ AllS.nil; intro K hK)
            refine Mg.appendQ (by rfl) (.tmp 25) (.tmp 27) 88 rfl hM 0 rfl Try.underlying88 hi0 hz0 hz1 rfl hz2 (by decide) 0 rfl rfl rfl rfl (by simp [Value.oneCell']) (by omega) hz3 (fun g8 c8 W5 hN hO8 hg8 hs8 => ?_)
            (try simp only [List.set_cons_zero] at hN)
            refine hK.out _ _ (.inl (HS.out _ [_, _] _ hN)) (fun hU => ?_)
            clear hK K hM hO8 hg8 hs8
            (try simp only [Act.put, List.setIfInBounds_toArray, List.set_cons_zero, List.set_cons_succ, Nat.zero_add])
            have hM := hN
            clear hN
            (refine AnyS.take (i := 9) rfl (by kernel_rfl) (by kernel_rfl) (by kernel_rfl) (by rfl) (fun _ _ _ h => h) (by rfl) (by intro w; go_simp; with_reducible rfl) hU (fun hU => ?_); (try simp only [Act.put, List.setIfInBounds_toArray, List.set_cons_zero, List.set_cons_succ]))
            replace hM := hM.sub (List.sublist_cons_self _ _)
            (refine AnyS.branch (rs := [11]) (by kernel_rfl) (List.cons_ne_nil _ _) ?_; refine AllS.cons rfl ?_ AllS.nil; intro K hK)
            refine st_rowQ (by rfl) 90 (.tmp 9) (.tmp 29) rfl b9 0 [.slice (some ⟨gw, 0, none⟩) s.length cw, .slice (some ⟨gm, 0, none⟩) s.length cm, .slice (some ⟨g8, 0, none⟩) (st.length + 1) c8] rfl rfl ((hM.at 0 rfl).there 0 3 (by simp)) (HI3.out _ _ _) (by simp [Value.oneCell']) ?_
            have hN := hM.setAll 0 rfl (vs := [.slice (some ⟨gw, 0, none⟩) s.length cw, .slice (some ⟨gm, 0, none⟩) s.length cm, .slice (some ⟨g8, 0, none⟩) (st.length + 1) c8]) rfl
            refine hK.out _ _ (.inr ⟨11, by simp, by rfl⟩) (fun hU => ?_)
            clear hK K hM
            refine AnyS.done (by kernel_rfl) ?_ _
            exact ⟨b2, g5, c5, b7, g8, c8, b9, rfl, HLF.out _ _ _ _ hN⟩
        · skip
          replace hM : Mg _ _ _ ((W2.heap.size, [.slice none 0 0, .slice none 0 0, .slice none 0 0], 90) :: _) _ := hM.alloc #[.slice none 0 0, .slice none 0 0, .slice none 0 0] 90
          go_simp
          refine hK.out _ _ (.inl (HS.out _ [_, _] _ hM)) (fun hU => ?_)
          clear hK K 
          (try simp only [Act.put, List.setIfInBounds_toArray, List.set_cons_zero, List.set_cons_succ, Nat.zero_add])
          generalize W2.alloc (.cells #[.slice none 0 0, .slice none 0 0, .slice none 0 0] 90) = W3 at *
          generalize W2.heap.size = b9 at *
          replace hM := hM.permL (List.Perm.swap _ _ _)
          (refine AnyS.branch (rs := [5]) (by kernel_rfl) (List.cons_ne_nil _ _) ?_; refine AllS.cons rfl ?_ AllS.nil; intro K hK)
          refine Mg.appendRowQ (by rfl) (.tmp 22) (.tmp 24) 88 rfl hM 0 rfl Try.underlying88 hi0 hz0 hz1 rfl hz2 (by decide) 3 rfl (by simp [i64s, natsI]) (by omega) rfl rfl (i64s_ones _) (by omega) hz3 (fun g5 c5 W4 hN hO5 hs5 => ?_)
          (try simp only [List.set_cons_zero, Nat.zero_add, List.nil_append] at hN)
          refine hK.out _ _ (.inl (HS.out _ [_, _] _ hN)) (fun hU => ?_)
          clear hK K hM hO5 hs5
          (try simp only [Act.put, List.setIfInBounds_toArray, List.set_cons_zero, List.set_cons_succ, Nat.zero_add])
          have hM := hN
          clear hN
          (refine AnyS.branch (rs := [8]) (by kernel_rfl) (List.cons_ne_nil _ _) ?_; refine AllS.cons rfl ?_ AllS.nil; intro K hK)
          refine Mg.appendQ (by rfl) (.tmp 25) (.tmp 27) 88 rfl hM 0 rfl Try.underlying88 hi0 hz0 hz1 rfl hz2 (by decide) 0 rfl rfl rfl rfl (by simp [Value.oneCell']) (by omega) hz3 (fun g8 c8 W5 hN hO8 hg8 hs8 => ?_)
          (try simp only [List.set_cons_zero] at hN)
          refine hK.out _ _ (.inl (HS.out _ [_, _] _ hN)) (fun hU => ?_)
          clear hK K hM hO8 hg8 hs8
          (try simp only [Act.put, List.setIfInBounds_toArray, List.set_cons_zero, List.set_cons_succ, Nat.zero_add])
          have hM := hN
          clear hN
          (refine AnyS.take (i := 9) rfl (by kernel_rfl) (by kernel_rfl) (by kernel_rfl) (by rfl) (fun _ _ _ h => h) (by rfl) (by intro w; go_simp; with_reducible rfl) hU (fun hU => ?_); (try simp only [Act.put, List.setIfInBounds_toArray, List.set_cons_zero, List.set_cons_succ]))
          replace hM := hM.sub (List.sublist_cons_self _ _)
          (refine AnyS.branch (rs := [11]) (by kernel_rfl) (List.cons_ne_nil _ _) ?_; refine AllS.cons rfl ?_ AllS.nil; intro K hK)
          refine st_rowQ (by rfl) 90 (.tmp 9) (.tmp 29) rfl b9 0 [.slice (some ⟨gw, 0, none⟩) s.length cw, .slice (some ⟨gm, 0, none⟩) s.length cm, .slice (some ⟨g8, 0, none⟩) (st.length + 1) c8] rfl rfl ((hM.at 0 rfl).there 0 3 (by simp)) (HI3.out _ _ _) (by simp [Value.oneCell']) ?_
          have hN := hM.setAll 0 rfl (vs := [.slice (some ⟨gw, 0, none⟩) s.length cw, .slice (some ⟨gm, 0, none⟩) s.length cm, .slice (some ⟨g8, 0, none⟩) (st.length + 1) c8]) rfl
          refine hK.out _ _ (.inr ⟨11, by simp, by rfl⟩) (fun hU => ?_)
          clear hK K hM
          refine AnyS.done (by kernel_rfl) ?_ _
          exact ⟨b2, g5, c5, b7, g8, c8, b9, rfl, HLF.out _ _ _ _ hN⟩
      · skip
        replace hM : Mg _ _ _ ((W1.heap.size, [.slice none 0 0, .slice none 0 0, .slice none 0 0], 90) :: _) _ := hM.alloc #[.slice none 0 0, .slice none 0 0, .slice none 0 0] 90
        go_simp
        refine hK.out _ _ (.inl (HS.out _ [_] _ hM)) (fun hU => ?_)
        clear hK K 
        (try simp only [Act.put, List.setIfInBounds_toArray, List.set_cons_zero, List.set_cons_succ, Nat.zero_add])
        generalize W1.alloc (.cells #[.slice none 0 0, .slice none 0 0, .slice none 0 0] 90) = W2 at *
        generalize W1.heap.size = b9 at *
        refine AnyS.branch (rs := [5, 7]) (by kernel_rfl) (by simp) (AllS.cons rfl (fun K hK => ?_) (AllS.cons rfl (fun K hK => ?_) AllS.nil))
        · skip
          refine Mg.appendRowQ (by rfl) (.tmp 22) (.tmp 24) 88 rfl hM 0 rfl Try.underlying88 hi0 hz0 hz1 rfl hz2 (by decide) 3 rfl (by simp [i64s, natsI]) (by omega) rfl rfl (i64s_ones _) (by omega) hz3 (fun g5 c5 W3 hN hO5 hs5 => ?_)
          (try simp only [List.set_cons_zero, Nat.zero_add, List.nil_append] at hN)
          refine hK.out _ _ (.inl (HS.out _ [_] _ hN)) (fun hU => ?_)
          clear hK K hM hO5 hs5
          (try simp only [Act.put, List.setIfInBounds_toArray, List.set_cons_zero, List.set_cons_succ, Nat.zero_add])
          have hM := hN
          clear hN
          (refine AnyS.branch (rs := [7]) (by kernel_rfl) (List.cons_ne_nil _ _) ?_; refine AllS.cons rfl ?_ AllS.nil; intro K hK)
          replace hM : Mg _ _ _ ((W3.heap.size, [.int .i64 (s.length : Int)], 3) :: _) _ := hM.alloc #[.int .i64 (s.length : Int)] 3
          go_simp
          refine hK.out _ _ (.inl (HS.out _ [_, _] _ hM)) (fun hU => ?_)
          clear hK K 
          (try simp only [Act.put, List.setIfInBounds_toArray, List.set_cons_zero, List.set_cons_succ, Nat.zero_add])
          generalize W3.alloc (.cells #[.int .i64 (s.length : Int)] 3) = W4 at *
          generalize W3.heap.size = b7 at *
          (refine AnyS.branch (rs := [8]) (by kernel_rfl) (List.cons_ne_nil _ _) ?_; refine AllS.cons rfl ?_ AllS.nil; intro K hK)
          refine Mg.appendQ (by rfl) (.tmp 25) (.tmp 27) 88 rfl hM 0 rfl Try.underlying88 hi0 hz0 hz1 rfl hz2 (by decide) 0 rfl rfl rfl rfl (by simp [Value.oneCell']) (by omega) hz3 (fun g8 c8 W5 hN hO8 hg8 hs8 => ?_)
          (try simp only [List.set_cons_zero] at hN)
          refine hK.out _ _ (.inl (HS.out _ [_, _] _ hN)) (fun hU => ?_)
          clear hK K hM hO8 hg8 hs8
          (try simp only [Act.put, List.setIfInBounds_toArray, List.set_cons_zero, List.set_cons_succ, Nat.zero_add])
          have hM := hN
          clear hN
          (refine AnyS.take (i := 9) rfl (by kernel_rfl) (by kernel_rfl) (by kernel_rfl) (by rfl) (fun _ _ _ h => h) (by rfl) (by intro w; go_simp; with_reducible rfl) hU (fun hU => ?_); (try simp only [Act.put, List.setIfInBounds_toArray, List.set_cons_zero, List.set_cons_succ]))
          replace hM := hM.sub (List.sublist_cons_self _ _)
          (refine AnyS.branch (rs := [11]) (by kernel_rfl) (List.cons_ne_nil _ _) ?_; refine AllS.cons rfl ?_ AllS.nil; intro K hK)
          refine st_rowQ (by rfl) 90 (.tmp 9) (.tmp 29) rfl b9 0 [.slice (some ⟨gw, 0, none⟩) s.length cw, .slice (some ⟨gm, 0, none⟩) s.length cm, .slice (some ⟨g8, 0, none⟩) (st.length + 1) c8] rfl rfl ((hM.at 0 rfl).there 0 3 (by simp)) (HI3.out _ _ _) (by simp [Value.oneCell']) ?_
          have hN := hM.setAll 0 rfl (vs := [.slice (some ⟨gw, 0, none⟩) s.length cw, .slice (some ⟨gm, 0, none⟩) s.length cm, .slice (some ⟨g8, 0, none⟩) (st.length + 1) c8]) rfl
          refine hK.out _ _ (.inr ⟨11, by simp, by rfl⟩) (fun hU => ?_)
          clear hK K hM
          refine AnyS.done (by kernel_rfl) ?_ _
          exact ⟨b2, g5, c5, b7, g8, c8, b9, rfl, HLF.out _ _ _ _ hN⟩
        · skip
          replace hM : Mg _ _ _ ((W2.heap.size, [.int .i64 (s.length : Int)], 3) :: _) _ := hM.alloc #[.int .i64 (s.length : Int)] 3
          go_simp
          refine hK.out _ _ (.inl (HS.out _ [_, _] _ hM)) (fun hU => ?_)
          clear hK K 
          (try simp only [Act.put, List.setIfInBounds_toArray, List.set_cons_zero, List.set_cons_succ, Nat.zero_add])
          generalize W2.alloc (.cells #[.int .i64 (s.length : Int)] 3) = W3 at *
          generalize W2.heap.size = b7 at *
          (refine AnyS.branch (rs := [5]) (by kernel_rfl) (List.cons_ne_nil _ _) ?_; refine AllS.cons rfl ?_ AllS.nil; intro K hK)
          refine Mg.appendRowQ (by rfl) (.tmp 22) (.tmp 24) 88 rfl hM 0 rfl Try.underlying88 hi0 hz0 hz1 rfl hz2 (by decide) 3 rfl (by simp [i64s, natsI]) (by omega) rfl rfl (i64s_ones _) (by omega) hz3 (fun g5 c5 W4 hN hO5 hs5 => ?_)
          (try simp only [List.set_cons_zero, Nat.zero_add, List.nil_append] at hN)
          refine hK.out _ _ (.inl (HS.out _ [_, _] _ hN)) (fun hU => ?_)
          clear hK K hM hO5 hs5
          (try simp only [Act.put, List.setIfInBounds_toArray, List.set_cons_zero, List.set_cons_succ, Nat.zero_add])
          have hM := hN
          clear hN
          (refine AnyS.branch (rs := [8]) (by kernel_rfl) (List.cons_ne_nil _ _) ?_; refine AllS.cons rfl ?_ AllS.nil; intro K hK)
          refine Mg.appendQ (by rfl) (.tmp 25) (.tmp 27) 88 rfl hM 0 rfl Try.underlying88 hi0 hz0 hz1 rfl hz2 (by decide) 0 rfl rfl rfl rfl (by simp [Value.oneCell']) (by omega) hz3 (fun g8 c8 W5 hN hO8 hg8 hs8 => ?_)
          (try simp only [List.set_cons_zero] at hN)
          refine hK.out _ _ (.inl (HS.out _ [_, _] _ hN)) (fun hU => ?_)
          clear hK K hM hO8 hg8 hs8
          (try simp only [Act.put, List.setIfInBounds_toArray, List.set_cons_zero, List.set_cons_succ, Nat.zero_add])
          have hM := hN
          clear hN
          (refine AnyS.take (i := 9) rfl (by kernel_rfl) (by kernel_rfl) (by kernel_rfl) (by rfl) (fun _ _ _ h => h) (by rfl) (by intro w; go_simp; with_reducible rfl) hU (fun hU => ?_); (try simp only [Act.put, List.setIfInBounds_toArray, List.set_cons_zero, List.set_cons_succ]))
          replace hM := hM.sub (List.sublist_cons_self _ _)
          (refine AnyS.branch (rs := [11]) (by kernel_rfl) (List.cons_ne_nil _ _) ?_; refine AllS.cons rfl ?_ AllS.nil; intro K hK)
          refine st_rowQ (by rfl) 90 (.tmp 9) (.tmp 29) rfl b9 0 [.slice (some ⟨gw, 0, none⟩) s.length cw, .slice (some ⟨gm, 0, none⟩) s.length cm, .slice (some ⟨g8, 0, none⟩) (st.length + 1) c8] rfl rfl ((hM.at 0 rfl).there 0 3 (by simp)) (HI3.out _ _ _) (by simp [Value.oneCell']) ?_
          have hN := hM.setAll 0 rfl (vs := [.slice (some ⟨gw, 0, none⟩) s.length cw, .slice (some ⟨gm, 0, none⟩) s.length cm, .slice (some ⟨g8, 0, none⟩) (st.length + 1) c8]) rfl
          refine hK.out _ _ (.inr ⟨11, by simp, by rfl⟩) (fun hU => ?_)
          clear hK K hM
          refine AnyS.done (by kernel_rfl) ?_ _
          exact ⟨b2, g5, c5, b7, g8, c8, b9, rfl, HLF.out _ _ _ _ hN⟩
    · skip
      replace hM : Mg _ _ _ ((W0.heap.size, [.int .i64 (s.length : Int)], 3) :: _) _ := hM.alloc #[.int .i64 (s.length : Int)] 3
      go_simp
      refine hK.out _ _ (.inl (HS.out _ [_] _ hM)) (fun hU => ?_)
      clear hK K 
      (try simp only [Act.put, List.setIfInBounds_toArray, List.set_cons_zero, List.set_cons_succ, Nat.zero_add])
      generalize W0.alloc (.cells #[.int .i64 (s.length : Int)] 3) = W1 at *
      generalize W0.heap.size = b7 at *
      refine AnyS.branch (rs := [2, 10]) (by kernel_rfl) (by simp) (AllS.cons rfl (fun K hK => ?_) (AllS.cons rfl (fun K hK => ?_) AllS.nil))
      · skip
        replace hM := hM.newOwn #[] 3 1 0 rfl (by omega)
        go_simp
        refine hK.out _ _ (.inl (HS.out _ [_] _ hM)) (fun hU => ?_)
        clear hK K 
        (try simp only [Act.put, List.setIfInBounds_toArray, List.set_cons_zero, List.set_cons_succ, Nat.zero_add])
        generalize W1.alloc (.cells #[] 3) = W2 at *
        generalize W1.heap.size = b2 at *
        refine AnyS.branch (rs := [5, 10]) (by kernel_rfl) (by simp) (AllS.cons rfl (fun K hK => ?_) (AllS.cons rfl (fun K hK => ?_) AllS.nil))
        · skip
          refine Mg.appendRowQ (by rfl) (.tmp 22) (.tmp 24) 88 rfl hM 0 rfl Try.underlying88 hi0 hz0 hz1 rfl hz2 (by decide) 3 rfl (by simp [i64s, natsI]) (by omega) rfl rfl (i64s_ones _) (by omega) hz3 (fun g5 c5 W3 hN hO5 hs5 => ?_)
          (try simp only [List.set_cons_zero, Nat.zero_add, List.nil_append] at hN)
          refine hK.out _ _ (.inl (HS.out _ [_] _ hN)) (fun hU => ?_)
          clear hK K hM hO5 hs5
          (try simp only [Act.put, List.setIfInBounds_toArray, List.set_cons_zero, List.set_cons_succ, Nat.zero_add])
          have hM := hN
          clear hN
          refine AnyS.branch (rs := [8, 10]) (by kernel_rfl) (by simp) (AllS.cons rfl (fun K hK => ?_) (AllS.cons rfl (fun K hK => ?_) AllS.nil))
          · skip
            refine Mg.appendQ (by rfl) (.tmp 25) (.tmp 27) 88 rfl hM 0 rfl Try.underlying88 hi0 hz0 hz1 rfl hz2 (by decide) 0 rfl rfl rfl rfl (by simp [Value.oneCell']) (by omega) hz3 (fun g8 c8 W4 hN hO8 hg8 hs8 => ?_)
            (try simp only [List.set_cons_zero] at hN)
            refine hK.out _ _ (.inl (HS.out _ [_] _ hN)) (fun hU => ?_)
            clear hK K hM hO8 hg8 hs8
            (try simp only [Act.put, List.setIfInBounds_toArray, List.set_cons_zero, List.set_cons_succ, Nat.zero_add])
            have hM := hN
            clear hN
            (refine AnyS.take (i := 9) rfl (by kernel_rfl) (by kernel_rfl) (by kernel_rfl) (by rfl) (fun _ _ _ h => h) (by rfl) (by intro w; go_simp; with_reducible rfl) hU (fun hU => ?_); (try simp only [Act.put, List.setIfInBounds_toArray, List.set_cons_zero, List.set_cons_succ]))
            (refine AnyS.branch (rs := [10]) (by kernel_rfl) (List.cons_ne_nil _ _) ?_; refine AllS.cons rfl ?_ AllS.nil; intro K hK)
            replace hM : Mg _ _ _ ((W4.heap.size, [.slice none 0 0, .slice none 0 0, .slice none 0 0], 90) :: _) _ := hM.alloc #[.slice none 0 0, .slice none 0 0, .slice none 0 0] 90
            go_simp
            refine hK.out _ _ (.inl (HS.out _ [_, _] _ hM)) (fun hU => ?_)
            clear hK K 
            (try simp only [Act.put, List.setIfInBounds_toArray, List.set_cons_zero, List.set_cons_succ, Nat.zero_add])
            generalize W4.alloc (.cells #[.slice none 0 0, .slice none 0 0, .slice none 0 0] 90) = W5 at *
            generalize W4.heap.size = b9 at *
            replace hM := hM.permL (List.Perm.swap _ _ _)
            replace hM := hM.sub (List.sublist_cons_self _ _)
            (refine AnyS.branch (rs := [11]) (by kernel_rfl) (List.cons_ne_nil _ _) ?_; refine AllS.cons rfl ?_ AllS.nil; intro K hK)
            refine st_rowQ (by rfl) 90 (.tmp 9) (.tmp 29) rfl b9 0 [.slice (some ⟨gw, 0, none⟩) s.length cw, .slice (some ⟨gm, 0, none⟩) s.length cm, .slice (some ⟨g8, 0, none⟩) (st.length + 1) c8] rfl rfl ((hM.at 0 rfl).there 0 3 (by simp)) (HI3.out _ _ _) (by simp [Value.oneCell']) ?_
            have hN := hM.setAll 0 rfl (vs := [.slice (some ⟨gw, 0, none⟩) s.length cw, .slice (some ⟨gm, 0, none⟩) s.length cm, .slice (some ⟨g8, 0, none⟩) (st.length + 1) c8]) rfl
            refine hK.out _ _ (.inr ⟨11, by simp, by rfl⟩) (fun hU => ?_)
            clear hK K hM
            refine AnyS.done (by kernel_rfl) ?_ _
            exact ⟨b2, g5, c5, b7, g8, c8, b9, rfl, HLF.out _ _ _ _ hN⟩
          · skip
            replace hM : Mg _ _ _ ((W3.heap.size, [.slice none 0 0, .slice none 0 0, .slice none 0 0], 90) :: _) _ := hM.alloc #[.slice none 0 0, .slice none 0 0, .slice none 0 0] 90
            go_simp
            refine hK.out _ _ (.inl (HS.out _ [_, _] _ hM)) (fun hU => ?_)
            clear hK K 
            (try simp only [Act.put, List.setIfInBounds_toArray, List.set_cons_zero, List.set_cons_succ, Nat.zero_add])
            generalize W3.alloc (.cells #[.slice none 0 0, .slice none 0 0, .slice none 0 0] 90) = W4 at *
            generalize W3.heap.size = b9 at *
            replace hM := hM.permL (List.Perm.swap _ _ _)
            (refine AnyS.branch (rs := [8]) (by kernel_rfl) (List.cons_ne_nil _ _) ?_; refine AllS.cons rfl ?_ AllS.nil; intro K hK)
            refine Mg.appendQ (by rfl) (.tmp 25) (.tmp 27) 88 rfl hM 0 rfl Try.underlying88 hi0 hz0 hz1 rfl hz2 (by decide) 0 rfl rfl rfl rfl (by simp [Value.oneCell']) (by omega) hz3 (fun g8 c8 W5 hN hO8 hg8 hs8 => ?_)
            (try simp only [List.set_cons_zero] at hN)
            refine hK.out _ _ (.inl (HS.out _ [_, _] _ hN)) (fun hU => ?_)
            clear hK K hM hO8 hg8 hs8
            (try simp only [Act.put, List.setIfInBounds_toArray, List.set_cons_zero, List.set_cons_succ, Nat.zero_add])
            have hM := hN
            clear hN
            (refine AnyS.take (i := 9) rfl (by kernel_rfl) (by kernel_rfl) (by kernel_rfl) (by rfl) (fun _ _ _ h => h) (by rfl) (by intro w; go_simp; with_reducible rfl) hU (fun hU => ?_); (try simp only [Act.put, List.setIfInBounds_toArray, List.set_cons_zero, List.set_cons_succ]))
            replace hM := hM.sub (List.sublist_cons_self _ _)
            (refine AnyS.branch (rs := [11]) (by kernel_rfl) (List.cons_ne_nil _ _) ?_; refine AllS.cons rfl ?_ AllS.nil; intro K hK)
            refine st_rowQ (by rfl) 90 (.tmp 9) (.tmp 29) rfl b9 0 [.slice (some ⟨gw, 0, none⟩) s.length cw, .slice (some ⟨gm, 0, none⟩) s.length cm, .slice (some ⟨g8, 0, none⟩) (st.length + 1) c8] rfl rfl ((hM.at 0 rfl).there 0 3 (by simp)) (HI3.out _ _ _) (by simp [Value.oneCell']) ?_
            have hN := hM.setAll 0 rfl (vs := [.slice (some ⟨gw, 0, none⟩) s.length cw, .slice (some ⟨gm, 0, none⟩) s.length cm, .slice (some ⟨g8, 0, none⟩) (st.length + 1) c8]) rfl
            refine hK.out _ _ (.inr ⟨11, by simp, by rfl⟩) (fun hU => ?_)
            clear hK K hM
            refine AnyS.done (by kernel_rfl) ?_ _
            exact ⟨b2, g5, c5, b7, g8, c8, b9, rfl, HLF.out _ _ _ _ hN⟩
        · skip
          replace hM : Mg _ _ _ ((W2.heap.size, [.slice none 0 0, .slice none 0 0, .slice none 0 0], 90) :: _) _ := hM.alloc #[.slice none 0 0, .slice none 0 0, .slice none 0 0] 90
          go_simp
          refine hK.out _ _ (.inl (HS.out _ [_, _] _ hM)) (fun hU => ?_)
          clear hK K 
          (try simp only [Act.put, List.setIfInBounds_toArray, List.set_cons_zero, List.set_cons_succ, Nat.zero_add])
          generalize W2.alloc (.cells #[.slice none 0 0, .slice none 0 0, .slice none 0 0] 90) = W3 at *
          generalize W2.heap.size = b9 at *
          replace hM := hM.permL (List.Perm.swap _ _ _)
          (refine AnyS.branch (rs := [5]) (by kernel_rfl) (List.cons_ne_nil _ _) ?_; refine AllS.cons rfl ?_ AllS.nil; intro K hK)
          refine Mg.appendRowQ (by rfl) (.tmp 22) (.tmp 24) 88 rfl hM 0 rfl Try.underlying88 hi0 hz0 hz1 rfl hz2 (by decide) 3 rfl (by simp [i64s, natsI]) (by omega) rfl rfl (i64s_ones _) (by omega) hz3 (fun g5 c5 W4 hN hO5 hs5 => ?_)
          (try simp only [List.set_cons_zero, Nat.zero_add, List.nil_append] at hN)
          refine hK.out _ _ (.inl (HS.out _ [_, _] _ hN)) (fun hU => ?_)
          clear hK K hM hO5 hs5
          (try simp only [Act.put, List.setIfInBounds_toArray, List.set_cons_zero, List.set_cons_succ, Nat.zero_add])
          have hM := hN
          clear hN
          (refine AnyS.branch (rs := [8]) (by kernel_rfl) (List.cons_ne_nil _ _) ?_; refine AllS.cons rfl ?_ AllS.nil; intro K hK)
          refine Mg.appendQ (by rfl) (.tmp 25) (.tmp 27) 88 rfl hM 0 rfl Try.underlying88 hi0 hz0 hz1 rfl hz2 (by decide) 0 rfl rfl rfl rfl (by simp [Value.oneCell']) (by omega) hz3 (fun g8 c8 W5 hN hO8 hg8 hs8 => ?_)
          (try simp only [List.set_cons_zero] at hN)
          refine hK.out _ _ (.inl (HS.out _ [_, _] _ hN)) (fun hU => ?_)
          clear hK K hM hO8 hg8 hs8
          (try simp only [Act.put, List.setIfInBounds_toArray, List.set_cons_zero, List.set_cons_succ, Nat.zero_add])
          have hM := hN
          clear hN
          (refine AnyS.take (i := 9) rfl (by kernel_rfl) (by kernel_rfl) (by kernel_rfl) (by rfl) (fun _ _ _ h => h) (by rfl) (by intro w; go_simp; with_reducible rfl) hU (fun hU => ?_); (try simp only [Act.put, List.setIfInBounds_toArray, List.set_cons_zero, List.set_cons_succ]))
          replace hM := hM.sub (List.sublist_cons_self _ _)
          (refine AnyS.branch (rs := [11]) (by kernel_rfl) (List.cons_ne_nil _ _) ?_; refine AllS.cons rfl ?_ AllS.nil; intro K hK)
          refine st_rowQ (by rfl) 90 (.tmp 9) (.tmp 29) rfl b9 0 [.slice (some ⟨gw, 0, none⟩) s.length cw, .slice (some ⟨gm, 0, none⟩) s.length cm, .slice (some ⟨g8, 0, none⟩) (st.length + 1) c8] rfl rfl ((hM.at 0 rfl).there 0 3 (by simp)) (HI3.out _ _ _) (by simp [Value.oneCell']) ?_
          have hN := hM.setAll 0 rfl (vs := [.slice (some ⟨gw, 0, none⟩) s.length cw, .slice (some ⟨gm, 0, none⟩) s.length cm, .slice (some ⟨g8, 0, none⟩) (st.length + 1) c8]) rfl
          refine hK.out _ _ (.inr ⟨11, by simp, by rfl⟩) (fun hU => ?_)
          clear hK K hM
          refine AnyS.done (by kernel_rfl) ?_ _
          exact ⟨b2, g5, c5, b7, g8, c8, b9, rfl, HLF.out _ _ _ _ hN⟩
      · skip
        replace hM : Mg _ _ _ ((W1.heap.size, [.slice none 0 0, .slice none 0 0, .slice none 0 0], 90) :: _) _ := hM.alloc #[.slice none 0 0, .slice none 0 0, .slice none 0 0] 90
        go_simp
        refine hK.out _ _ (.inl (HS.out _ [_, _] _ hM)) (fun hU => ?_)
        clear hK K 
        (try simp only [Act.put, List.setIfInBounds_toArray, List.set_cons_zero, List.set_cons_succ, Nat.zero_add])
        generalize W1.alloc (.cells #[.slice none 0 0, .slice none 0 0, .slice none 0 0] 90) = W2 at *
        generalize W1.heap.size = b9 at *
        replace hM := hM.permL (List.Perm.swap _ _ _)
        (refine AnyS.branch (rs := [2]) (by kernel_rfl) (List.cons_ne_nil _ _) ?_; refine AllS.cons rfl ?_ AllS.nil; intro K hK)
        replace hM := hM.newOwn #[] 3 1 0 rfl (by omega)
        go_simp
        refine hK.out _ _ (.inl (HS.out _ [_, _] _ hM)) (fun hU => ?_)
        clear hK K 
        (try simp only [Act.put, List.setIfInBounds_toArray, List.set_cons_zero, List.set_cons_succ, Nat.zero_add])
        generalize W2.alloc (.cells #[] 3) = W3 at *
        generalize W2.heap.size = b2 at *
        (refine AnyS.branch (rs := [5]) (by kernel_rfl) (List.cons_ne_nil _ _) ?_; refine AllS.cons rfl ?_ AllS.nil; intro K hK)
        refine Mg.appendRowQ (by rfl) (.tmp 22) (.tmp 24) 88 rfl hM 0 rfl Try.underlying88 hi0 hz0 hz1 rfl hz2 (by decide) 3 rfl (by simp [i64s, natsI]) (by omega) rfl rfl (i64s_ones _) (by omega) hz3 (fun g5 c5 W4 hN hO5 hs5 => ?_)
        (try simp only [List.set_cons_zero, Nat.zero_add, List.nil_append] at hN)
        refine hK.out _ _ (.inl (HS.out _ [_, _] _ hN)) (fun hU => ?_)
        clear hK K hM hO5 hs5
        (try simp only [Act.put, List.setIfInBounds_toArray, List.set_cons_zero, List.set_cons_succ, Nat.zero_add])
        have hM := hN
        clear hN
        (refine AnyS.branch (rs := [8]) (by kernel_rfl) (List.cons_ne_nil _ _) ?_; refine AllS.cons rfl ?_ AllS.nil; intro K hK)
        refine Mg.appendQ (by rfl) (.tmp 25) (.tmp 27) 88 rfl hM 0 rfl Try.underlying88 hi0 hz0 hz1 rfl hz2 (by decide) 0 rfl rfl rfl rfl (by simp [Value.oneCell']) (by omega) hz3 (fun g8 c8 W5 hN hO8 hg8 hs8 => ?_)
        (try simp only [List.set_cons_zero] at hN)
        refine hK.out _ _ (.inl (HS.out _ [_, _] _ hN)) (fun hU => ?_)
        clear hK K hM hO8 hg8 hs8
        (try simp only [Act.put, List.setIfInBounds_toArray, List.set_cons_zero, List.set_cons_succ, Nat.zero_add])
        have hM := hN
        clear hN
        (refine AnyS.take (i := 9) rfl (by kernel_rfl) (by kernel_rfl) (by kernel_rfl) (by rfl) (fun _ _ _ h => h) (by rfl) (by intro w; go_simp; with_reducible rfl) hU (fun hU => ?_); (try simp only [Act.put, List.setIfInBounds_toArray, List.set_cons_zero, List.set_cons_succ]))
        replace hM := hM.sub (List.sublist_cons_self _ _)
        (refine AnyS.branch (rs := [11]) (by kernel_rfl) (List.cons_ne_nil _ _) ?_; refine AllS.cons rfl ?_ AllS.nil; intro K hK)
        refine st_rowQ (by rfl) 90 (.tmp 9) (.tmp 29) rfl b9 0 [.slice (some ⟨gw, 0, none⟩) s.length cw, .slice (some ⟨gm, 0, none⟩) s.length cm, .slice (some ⟨g8, 0, none⟩) (st.length + 1) c8] rfl rfl ((hM.at 0 rfl).there 0 3 (by simp)) (HI3.out _ _ _) (by simp [Value.oneCell']) ?_
        have hN := hM.setAll 0 rfl (vs := [.slice (some ⟨gw, 0, none⟩) s.length cw, .slice (some ⟨gm, 0, none⟩) s.length cm, .slice (some ⟨g8, 0, none⟩) (st.length + 1) c8]) rfl
        refine hK.out _ _ (.inr ⟨11, by simp, by rfl⟩) (fun hU => ?_)
        clear hK K hM
        refine AnyS.done (by kernel_rfl) ?_ _
        exact ⟨b2, g5, c5, b7, g8, c8, b9, rfl, HLF.out _ _ _ _ hN⟩
    · skip
      replace hM : Mg _ _ _ ((W0.heap.size, [.slice none 0 0, .slice none 0 0, .slice none 0 0], 90) :: _) _ := hM.alloc #[.slice none 0 0, .slice none 0 0, .slice none 0 0] 90
      go_simp
      refine hK.out _ _ (.inl (HS.out _ [_] _ hM)) (fun hU => ?_)
      clear hK K 
      (try simp only [Act.put, List.setIfInBounds_toArray, List.set_cons_zero, List.set_cons_succ, Nat.zero_add])
      generalize W0.alloc (.cells #[.slice none 0 0, .slice none 0 0, .slice none 0 0] 90) = W1 at *
      generalize W0.heap.size = b9 at *
      refine AnyS.branch (rs := [2, 7]) (by kernel_rfl) (by simp) (AllS.cons rfl (fun K hK => ?_) (AllS.cons rfl (fun K hK => ?_) AllS.nil))
      · skip
        replace hM := hM.newOwn #[] 3 1 0 rfl (by omega)
        go_simp
        refine hK.out _ _ (.inl (HS.out _ [_] _ hM)) (fun hU => ?_)
        clear hK K 
        (try simp only [Act.put, List.setIfInBounds_toArray, List.set_cons_zero, List.set_cons_succ, Nat.zero_add])
        generalize W1.alloc (.cells #[] 3) = W2 at *
        generalize W1.heap.size = b2 at *
        refine AnyS.branch (rs := [5, 7]) (by kernel_rfl) (by simp) (AllS.cons rfl (fun K hK => ?_) (AllS.cons rfl (fun K hK => ?_) AllS.nil))
        · skip
          refine Mg.appendRowQ (by rfl) (.tmp 22) (.tmp 24) 88 rfl hM 0 rfl Try.underlying88 hi0 hz0 hz1 rfl hz2 (by decide) 3 rfl (by simp [i64s, natsI]) (by omega) rfl rfl (i64s_ones _) (by omega) hz3 (fun g5 c5 W3 hN hO5 hs5 => ?_)
          (try simp only [List.set_cons_zero, Nat.zero_add, List.nil_append] at hN)
          refine hK.out _ _ (.inl (HS.out _ [_] _ hN)) (fun hU => ?_)
          clear hK K hM hO5 hs5
          (try simp only [Act.put, List.setIfInBounds_toArray, List.set_cons_zero, List.set_cons_succ, Nat.zero_add])
          have hM := hN
          clear hN
          (refine AnyS.branch (rs := [7]) (by kernel_rfl) (List.cons_ne_nil _ _) ?_; refine AllS.cons rfl ?_ AllS.nil; intro K hK)
          replace hM : Mg _ _ _ ((W3.heap.size, [.int .i64 (s.length : Int)], 3) :: _) _ := hM.alloc #[.int .i64 (s.length : Int)] 3
          go_simp
          refine hK.out _ _ (.inl (HS.out _ [_, _] _ hM)) (fun hU => ?_)
          clear hK K 
          (try simp only [Act.put, List.setIfInBounds_toArray, List.set_cons_zero, List.set_cons_succ, Nat.zero_add])
          generalize W3.alloc (.cells #[.int .i64 (s.length : Int)] 3) = W4 at *
          generalize W3.heap.size = b7 at *
          (refine AnyS.branch (rs := [8]) (by kernel_rfl) (List.cons_ne_nil _ _) ?_; refine AllS.cons rfl ?_ AllS.nil; intro K hK)
          refine Mg.appendQ (by rfl) (.tmp 25) (.tmp 27) 88 rfl hM 0 rfl Try.underlying88 hi0 hz0 hz1 rfl hz2 (by decide) 0 rfl rfl rfl rfl (by simp [Value.oneCell']) (by omega) hz3 (fun g8 c8 W5 hN hO8 hg8 hs8 => ?_)
          (try simp only [List.set_cons_zero] at hN)
          refine hK.out _ _ (.inl (HS.out _ [_, _] _ hN)) (fun hU => ?_)
          clear hK K hM hO8 hg8 hs8
          (try simp only [Act.put, List.setIfInBounds_toArray, List.set_cons_zero, List.set_cons_succ, Nat.zero_add])
          have hM := hN
          clear hN
          (refine AnyS.take (i := 9) rfl (by kernel_rfl) (by kernel_rfl) (by kernel_rfl) (by rfl) (fun _ _ _ h => h) (by rfl) (by intro w; go_simp; with_reducible rfl) hU (fun hU => ?_); (try simp only [Act.put, List.setIfInBounds_toArray, List.set_cons_zero, List.set_cons_succ]))
          replace hM := hM.sub (List.sublist_cons_self _ _)
          (refine AnyS.branch (rs := [11]) (by kernel_rfl) (List.cons_ne_nil _ _) ?_; refine AllS.cons rfl ?_ AllS.nil; intro K hK)
          refine st_rowQ (by rfl) 90 (.tmp 9) (.tmp 29) rfl b9 0 [.slice (some ⟨gw, 0, none⟩) s.length cw, .slice (some ⟨gm, 0, none⟩) s.length cm, .slice (some ⟨g8, 0, none⟩) (st.length + 1) c8] rfl rfl ((hM.at 0 rfl).there 0 3 (by simp)) (HI3.out _ _ _) (by simp [Value.oneCell']) ?_
          have hN := hM.setAll 0 rfl (vs := [.slice (some ⟨gw, 0, none⟩) s.length cw, .slice (some ⟨gm, 0, none⟩) s.length cm, .slice (some ⟨g8, 0, none⟩) (st.length + 1) c8]) rfl
          refine hK.out _ _ (.inr ⟨11, by simp, by rfl⟩) (fun hU => ?_)
          clear hK K hM
          refine AnyS.done (by kernel_rfl) ?_ _
          exact ⟨b2, g5, c5, b7, g8, c8, b9, rfl, HLF.out _ _ _ _ hN⟩
        · skip
          replace hM : Mg _ _ _ ((W2.heap.size, [.int .i64 (s.length : Int)], 3) :: _) _ := hM.alloc #[.int .i64 (s.length : Int)] 3
          go_simp
          refine hK.out _ _ (.inl (HS.out _ [_, _] _ hM)) (fun hU => ?_)
          clear hK K 
          (try simp only [Act.put, List.setIfInBounds_toArray, List.set_cons_zero, List.set_cons_succ, Nat.zero_add])
          generalize W2.alloc (.cells #[.int .i64 (s.length : Int)] 3) = W3 at *
          generalize W2.heap.size = b7 at *
          (refine AnyS.branch (rs := [5]) (by kernel_rfl) (List.cons_ne_nil _ _) ?_; refine AllS.cons rfl ?_ AllS.nil; intro K hK)
          refine Mg.appendRowQ (by rfl) (.tmp 22) (.tmp 24) 88 rfl hM 0 rfl Try.underlying88 hi0 hz0 hz1 rfl hz2 (by decide) 3 rfl (by simp [i64s, natsI]) (by omega) rfl rfl (i64s_ones _) (by omega) hz3 (fun g5 c5 W4 hN hO5 hs5 => ?_)
          (try simp only [List.set_cons_zero, Nat.zero_add, List.nil_append] at hN)
          refine hK.out _ _ (.inl (HS.out _ [_, _] _ hN)) (fun hU => ?_)
          clear hK K hM hO5 hs5
          (try simp only [Act.put, List.setIfInBounds_toArray, List.set_cons_zero, List.set_cons_succ, Nat.zero_add])
          have hM := hN
          clear hN
          (refine AnyS.branch (rs := [8]) (by kernel_rfl) (List.cons_ne_nil _ _) ?_; refine AllS.cons rfl ?_ AllS.nil; intro K hK)
          refine Mg.appendQ (by rfl) (.tmp 25) (.tmp 27) 88 rfl hM 0 rfl Try.underlying88 hi0 hz0 hz1 rfl hz2 (by decide) 0 rfl rfl rfl rfl (by simp [Value.oneCell']) (by omega) hz3 (fun g8 c8 W5 hN hO8 hg8 hs8 => ?_)
          (try simp only [List.set_cons_zero] at hN)
          refine hK.out _ _ (.inl (HS.out _ [_, _] _ hN)) (fun hU => ?_)
          clear hK K hM hO8 hg8 hs8
          (try simp only [Act.put, List.setIfInBounds_toArray, List.set_cons_zero, List.set_cons_succ, Nat.zero_add])
          have hM := hN
          clear hN
          (refine AnyS.take (i := 9) rfl (by kernel_rfl) (by kernel_rfl) (by kernel_rfl) (by rfl) (fun _ _ _ h => h) (by rfl) (by intro w; go_simp; with_reducible rfl) hU (fun hU => ?_); (try simp only [Act.put, List.setIfInBounds_toArray, List.set_cons_zero, List.set_cons_succ]))
          replace hM := hM.sub (List.sublist_cons_self _ _)
          (refine AnyS.branch (rs := [11]) (by kernel_rfl) (List.cons_ne_nil _ _) ?_; refine AllS.cons rfl ?_ AllS.nil; intro K hK)
          refine st_rowQ (by rfl) 90 (.tmp 9) (.tmp 29) rfl b9 0 [.slice (some ⟨gw, 0, none⟩) s.length cw, .slice (some ⟨gm, 0, none⟩) s.length cm, .slice (some ⟨g8, 0, none⟩) (st.length + 1) c8] rfl rfl ((hM.at 0 rfl).there 0 3 (by simp)) (HI3.out _ _ _) (by simp [Value.oneCell']) ?_
          have hN := hM.setAll 0 rfl (vs := [.slice (some ⟨gw, 0, none⟩) s.length cw, .slice (some ⟨gm, 0, none⟩) s.length cm, .slice (some ⟨g8, 0, none⟩) (st.length + 1) c8]) rfl
          refine hK.out _ _ (.inr ⟨11, by simp, by rfl⟩) (fun hU => ?_)
          clear hK K hM
          refine AnyS.done (by kernel_rfl) ?_ _
          exact ⟨b2, g5, c5, b7, g8, c8, b9, rfl, HLF.out _ _ _ _ hN⟩
      · skip
        replace hM : Mg _ _ _ ((W1.heap.size, [.int .i64 (s.length : Int)], 3) :: _) _ := hM.alloc #[.int .i64 (s.length : Int)] 3
        go_simp
        refine hK.out _ _ (.inl (HS.out _ [_, _] _ hM)) (fun hU => ?_)
        clear hK K 
        (try simp only [Act.put, List.setIfInBounds_toArray, List.set_cons_zero, List.set_cons_succ, Nat.zero_add])
        generalize W1.alloc (.cells #[.int .i64 (s.length : Int)] 3) = W2 at *
        generalize W1.heap.size = b7 at *
        (refine AnyS.branch (rs := [2]) (by kernel_rfl) (List.cons_ne_nil _ _) ?_; refine AllS.cons rfl ?_ AllS.nil; intro K hK)
        replace hM := hM.newOwn #[] 3 1 0 rfl (by omega)
        go_simp
        refine hK.out _ _ (.inl (HS.out _ [_, _] _ hM)) (fun hU => ?_)
        clear hK K 
        (try simp only [Act.put, List.setIfInBounds_toArray, List.set_cons_zero, List.set_cons_succ, Nat.zero_add])
        generalize W2.alloc (.cells #[] 3) = W3 at *
        generalize W2.heap.size = b2 at *
        (refine AnyS.branch (rs := [5]) (by kernel_rfl) (List.cons_ne_nil _ _) ?_; refine AllS.cons rfl ?_ AllS.nil; intro K hK)
        refine Mg.appendRowQ (by rfl) (.tmp 22) (.tmp 24) 88 rfl hM 0 rfl Try.underlying88 hi0 hz0 hz1 rfl hz2 (by decide) 3 rfl (by simp [i64s, natsI]) (by omega) rfl rfl (i64s_ones _) (by omega) hz3 (fun g5 c5 W4 hN hO5 hs5 => ?_)
        (try simp only [List.set_cons_zero, Nat.zero_add, List.nil_append] at hN)
        refine hK.out _ _ (.inl (HS.out _ [_, _] _ hN)) (fun hU => ?_)
        clear hK K hM hO5 hs5
        (try simp only [Act.put, List.setIfInBounds_toArray, List.set_cons_zero, List.set_cons_succ, Nat.zero_add])
        have hM := hN
        clear hN
        (refine AnyS.branch (rs := [8]) (by kernel_rfl) (List.cons_ne_nil _ _) ?_; refine AllS.cons rfl ?_ AllS.nil; intro K hK)
        refine Mg.appendQ (by rfl) (.tmp 25) (.tmp 27) 88 rfl hM 0 rfl Try.underlying88 hi0 hz0 hz1 rfl hz2 (by decide) 0 rfl rfl rfl rfl (by simp [Value.oneCell']) (by omega) hz3 (fun g8 c8 W5 hN hO8 hg8 hs8 => ?_)
        (try simp only [List.set_cons_zero] at hN)
        refine hK.out _ _ (.inl (HS.out _ [_, _] _ hN)) (fun hU => ?_)
        clear hK K hM hO8 hg8 hs8
        (try simp only [Act.put, List.setIfInBounds_toArray, List.set_cons_zero, List.set_cons_succ, Nat.zero_add])
        have hM := hN
        clear hN
        (refine AnyS.take (i := 9) rfl (by kernel_rfl) (by kernel_rfl) (by kernel_rfl) (by rfl) (fun _ _ _ h => h) (by rfl) (by intro w; go_simp; with_reducible rfl) hU (fun hU => ?_); (try simp only [Act.put, List.setIfInBounds_toArray, List.set_cons_zero, List.set_cons_succ]))
        replace hM := hM.sub (List.sublist_cons_self _ _)
        (refine AnyS.branch (rs := [11]) (by kernel_rfl) (List.cons_ne_nil _ _) ?_; refine AllS.cons rfl ?_ AllS.nil; intro K hK)
        refine st_rowQ (by rfl) 90 (.tmp 9) (.tmp 29) rfl b9 0 [.slice (some ⟨gw, 0, none⟩) s.length cw, .slice (some ⟨gm, 0, none⟩) s.length cm, .slice (some ⟨g8, 0, none⟩) (st.length + 1) c8] rfl rfl ((hM.at 0 rfl).there 0 3 (by simp)) (HI3.out _ _ _) (by simp [Value.oneCell']) ?_
        have hN := hM.setAll 0 rfl (vs := [.slice (some ⟨gw, 0, none⟩) s.length cw, .slice (some ⟨gm, 0, none⟩) s.length cm, .slice (some ⟨g8, 0, none⟩) (st.length + 1) c8]) rfl
        refine hK.out _ _ (.inr ⟨11, by simp, by rfl⟩) (fun hU => ?_)
        clear hK K hM
        refine AnyS.done (by kernel_rfl) ?_ _
        exact ⟨b2, g5, c5, b7, g8, c8, b9, rfl, HLF.out _ _ _ _ hN⟩
end Go.Proofs.Yteagecoiijhflaa
