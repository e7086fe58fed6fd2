import Derived.Test.YteagecoiijhflaaYBall09
import Derived.Test.YteagecoiijhflaaYBall07
import Derived.Test.YteagecoiijhflaaYBall03
import Derived.Test.YteagecoiijhflaaYBall04
import Derived.StillTailTactics
import Derived.Test.YteagecoiijhflaaYBall02
import Derived.Test.YteagecoiijhflaaYBall06
/- sections: the program's search through the sections of a word. -/
namespace Go.Proofs.Yteagecoiijhflaa
open Go.RowKit
set_option linter.unusedVariables false
set_option linter.unusedSimpArgs false

def natsI (r : List Nat) : Wd := r.map fun a : Nat => (a : Int)
/-- the queue, the rows, and what they hold -/
def gS (v9 : Value) (rq : List Value) (Q : List Wd) (v11 : Value) (rn : List Value) (N : List (List Nat)) : List (Value × TypeId × List Value) :=
  (v9, 26, rq) :: (v11, 26, rn) :: (rowG rq Q ++ rowG rn (N.map natsI))
/-- a queue, the rows and a code -/
def RetSec (R : Except Int (List Wd × List (List Nat))) (w : World) (e : Ending) (w' : World) : Prop :=
  match R with
  | .error c => e = .returned (.tuple #[.slice none 0 0, .slice none 0 0, .int .i64 c]) ∧ Below w.heap.size w w'
  | .ok (Q, N) => ∃ v9 rq v11 rn, e = .returned (.tuple #[v9, v11, .int .i64 0]) ∧ rq.length = Q.length ∧ rn.length = N.length ∧ Mm w.heap.size w w' [] (gS v9 rq Q v11 rn N)
theorem gS_rows {v9 v11 : Value} {rq rn : List Value} {Q : List Wd} {N : List (List Nat)} : ∀ x ∈ rowG rq Q, x ∈ gS v9 rq Q v11 rn N := fun x hx => List.mem_cons_of_mem _ (List.mem_cons_of_mem _ (List.mem_append_left _ hx))
theorem gS_queue {v9 v11 v s : Value} {rq rn : List Value} {Q : List Wd} {N : List (List Nat)} {g : Wd} {X : Value × TypeId × List Value} (hl : rq.length = Q.length) :
    ((s, 2, i64s g) :: X :: (v9, 26, rq ++ [s]) :: (v11, 26, rn) :: (rowG rq Q ++ rowG rn (N.map natsI))).Perm (X :: gS v9 (rq ++ [s]) (Q ++ [g]) v11 rn N) := by
  rw [gS, rowG_snoc s g hl]
  refine (List.Perm.swap _ _ _).trans (List.Perm.cons _ ((List.Perm.swap _ _ _).trans (List.Perm.cons _ ((List.Perm.swap _ _ _).trans (List.Perm.cons _ ?_)))))
  rw [List.append_assoc]
  exact List.perm_middle.symm
theorem gS_next {v9 v11 s : Value} {rq rn : List Value} {Q : List Wd} {N : List (List Nat)} {r : List Nat} (hl : rn.length = N.length) :
    ((s, 2, i64s (natsI r)) :: (v9, 26, rq) :: (v11, 26, rn ++ [s]) :: (rowG rq Q ++ rowG rn (N.map natsI))).Perm (gS v9 rq Q v11 (rn ++ [s]) (N ++ [r])) := by
  rw [gS, List.map_append, List.map_cons, List.map_nil, rowG_snoc s (natsI r) (by rw [hl, List.length_map])]
  refine (List.Perm.swap _ _ _).trans (List.Perm.cons _ ((List.Perm.swap _ _ _).trans (List.Perm.cons _ ?_)))
  rw [← List.append_assoc]
  exact (List.perm_append_singleton _ _).symm
theorem qRow_stop {m : Mch} {h : Wd} {Q : List Wd} {x : Nat} (hn : qRow m h x Q = none) : ∀ j, qRow m h (x + j) Q = none
  | 0 => hn
  | j + 1 => by rw [← Nat.add_assoc, qRow, qRow_stop hn j]

set_option maxRecDepth 100000 in
set_option maxHeartbeats 8000000 in
theorem sections_any (G : Nat) (m : Mch) (hwf : m.Wf) (hok : m.Ok) (want : Wd → Bool) (k : Nat) (hent : Enters k) (first cap : Array Value) (a : Option Addr) (g : Wd) (c : Nat) (hg : GW m g) (hl : g.length ≤ 1000) (w : World) (hG : GrpR w G m) (hI : IntsAt w a g)
    (hf : ∀ W, Below w.heap.size w W → ∀ (h : Wd) a c, GW m h → h.length ≤ 1000 → IntsAt W a h → Calls Try.prog k (first ++ #[.slice a h.length c] ++ cap) W (Ret (.bool (want h)) W)) :
    Calls Try.prog 100 #[.pointer (some ⟨G, 0, none⟩), .slice a g.length c, .func (.func k) first cap] w (RetSec (secR m want g) w) := by
  obtain ⟨i0, hi, hz0, hz1, hz2⟩ := info_parts Try.info2
  obtain ⟨j0, hJ, hy0, hy1, hy2⟩ := info_parts Try.info26
  have h3 := hok.l_le
  have HG := Lib.hid hG
  have HGW := Lib.hid hg
  have HF := Lib.hid hf
  have hent' : ∀ args w, Sem.run Try.prog (callFunc k args) w = .ok (.enter k args) w := hent
  have hmm := @run_makeMap Try.prog
  have hI0 := hI
  clear hG hg hf hI hent
  go_enter Try.func100, Try.ntmps100
  go_wp2_with fail
  refine (normal_any G m hwf hok a g c HGW.out hl _ HG.out hI0).mono ?_
  rintro e w1 ⟨v, rfl, hb1, hO1⟩
  have hM1 := ((Mm.start w).callOwn hb1 hO1 (by simp [i64s])).alloc #[v] 26
  have hM2 := hM1.addOwn (b := w1.heap.size) (cs := [v]) (T := 26) (by simp) 1 rfl (by omega)
  simp only [List.filter_cons, List.filter_nil, bne_self_eq_false, Bool.false_eq_true, if_false] at hM2
  have hMap := MapN.new (w1.alloc (.cells #[v] 26))
  rw [show (w1.alloc (.cells #[v] 26)).heap.size = w1.heap.size + 1 by simp] at hMap
  have hM3 := hM2.allocO (.map #[] 0)
  have hQ0 : MQ w.heap.size w ((w1.alloc (.cells #[v] 26)).alloc (.map #[] 0)) [(.slice (some ⟨w1.heap.size, 0, none⟩) 1 1, 26, [v]), (v, 2, i64s (nrm m g))] (w1.heap.size + 1) 0 (fun _ => none) := by
    refine ⟨hM3, hMap, by have := hb1.size; omega, fun x hx => ?_⟩
    simp only [List.mem_cons, List.not_mem_nil, or_false] at hx
    rcases hx with rfl | rfl
    · simp [Value.ownBlock]
    · intro e
      have := (World.ownsRow.lt hO1 _ e).2
      omega
  have HQ0 := Lib.hid hQ0
  have HN := Lib.hid hO1
  obtain ⟨av, cv, rfl, hIv⟩ := id hO1.form
  have hbA : Below w1.heap.size w1 ((w1.alloc (.cells #[.slice av (nrm m g).length cv] 26)).alloc (.map #[] 0)) := ((Below.refl _ _).alloc (Nat.le_refl _) _).alloc (by simp) _
  have HIV := Lib.hid (hIv.keep hbA)
  have hnl := nrm_len m g
  clear hM1 hM2 hM3 hMap hQ0 hO1 hI0 hIv
  go_wp2_with fail
  refine (key_any m hok av (nrm m g) cv (nrm_gw HGW.out) (by omega) _ HIV.out).mono ?_
  rintro e w2 ⟨rfl, hb2⟩
  have hQ1 := HQ0.out.call hb2
  obtain ⟨w3, hrun, hQ2⟩ := hQ1.put (by omega) (keyB (nrm m g)) 0 (by rw [keyB_size]; simp [maxLen]; omega) (by omega)
  rw [← fQ_one] at hQ2
  rw [show ((0 : Nat) : Int) = 0 from rfl] at hrun
  have HQ2 : Hid (MQ w.heap.size w w3 (gS (.slice (some ⟨w1.heap.size, 0, none⟩) 1 1) [.slice av (nrm m g).length cv] [nrm m g] (.slice none 0 0) [] []) (w1.heap.size + 1) [nrm m g].length (fQ [nrm m g])) :=
    (hQ2.addNil 26).perm (List.Perm.swap _ _ _)
  obtain ⟨b, hb⟩ : ∃ b, b = w1.heap.size + 1 := ⟨_, rfl⟩
  obtain ⟨b9, hb9⟩ : ∃ b9, b9 = w1.heap.size := ⟨_, rfl⟩
  rw [← hb] at hrun HQ2 ⊢
  rw [← hb9] at HQ2 ⊢
  clear hQ1 hQ2 HQ0 hb2 hmm hbA HIV hb hb9 HN hb1
  go_wp2_with fail
  clear hrun
  go_loopw [9, 11, 12] (fun v9 v11 i wr => ∃ (j : Nat) (rq rn : List Value) (Q : List Wd) (N : List (List Nat)), i = .int .i64 j ∧ j ≤ 200 ∧ MQ w.heap.size w wr (gS v9 rq Q v11 rn N) b Q.length (fQ Q) ∧ Hid (bSt m want g j = .ok (Q, N) ∧ rq.length = Q.length ∧ rn.length = N.length ∧ N.length = j)) (fun _ _ i _ => 200 - (intOf i).toNat)
  case atStart => exact ⟨0, [.slice av (nrm m g).length cv], [], [nrm m g], [], rfl, by omega, HQ2.out, rfl, rfl, rfl, rfl⟩
  case round =>
    clear HQ2
    obtain ⟨j, rq, rn, Q, N, rfl, hj, hQ, HB⟩ := hrel
    have hB := HB.out
    obtain ⟨hok1, hok2, -⟩ := bSt_ok hok hwf want HGW.out j hB.1
    have hmany := hok1.many
    have hrl := hB.2.1
    have ho := hQ.mm.own _ (List.mem_cons_self ..)
    simp only at ho
    obtain ⟨g9, c9, rfl, -, -, -⟩ := own_form ho (by rw [hrl]; have := hok1.pos; omega)
    rw [hrl] at ho hQ ⊢
    clear ho
    by_cases hlt : j < Q.length
    · have hNl : N.length < 200 := by have := hB.2.2.2; omega
      obtain ⟨g9', c9', a', d', e1, e2, e3⟩ := hQ.mm.readQ hrl (List.mem_cons_self ..) gS_rows hlt
      injection e1 with e1 _ e1'
      injection e1 with e1
      injection e1 with e1
      subst e1 e1'
      have hw' := hok1.toQOk.at hlt
      obtain ⟨hh, hhe⟩ : ∃ hh, hh = Q[j]?.getD [] := ⟨_, rfl⟩
      rw [← hhe] at e2 e3 hw'
      have HH := Lib.hid hhe
      have HCW := Lib.hid (HF.out wr hQ.mm.below hh a' d' hw'.1 (by omega) e3)
      have HBN : Hid (bSt m want g (j + 1) = if want hh = true then (match qRow m hh m.l Q with | none => .error 3 | some (Q', r) => .ok (Q', N ++ [r])) else .error 5) := by
        show _ = _; rw [bSt, hB.1]; simp only; rw [if_pos hlt, ← hhe]; rfl
      have i1 : (0 : Int) ≤ (j : Int) := by omega
      have i2 : (j : Int) < (Q.length : Int) := by omega
      have HNL := Lib.hid hNl
      clear hhe hB hw' hok1 hok2
      go_wp2_with fail
      refine HCW.out.mono ?_
      rintro e w4 ⟨rfl, hb4⟩
      have hQ4 := hQ.call hb4
      cases hwt : want hh
      · rw [hwt] at HBN
        simp only [Bool.false_eq_true, if_false] at HBN
        have HR : Hid (secR m want g = .error 5) := secR_err HBN.out (by omega)
        have hbl := hQ4.mm.below
        clear hwt HCW hQ hQ4 e3
        go_wp2_with fail
        go_ret3
        rw [HR.out]
        exact ⟨rfl, hbl⟩
      · rw [hwt] at HBN
        simp only [if_true] at HBN
        have cl := (HG.out.keep hQ4.mm.below).mach.l
        rw [hok.L_eq] at cl
        have HQ5 := Lib.hid (hQ4.addNil 2)
        clear hwt HCW hQ hQ4 e2 e3 hb4
        go_wp2_with fail
        clear cl
        obtain ⟨v9, hv9⟩ : ∃ v9, v9 = Value.slice (some ⟨g9, 0, none⟩) Q.length c9 := ⟨_, rfl⟩
        rw [← hv9] at HQ5 ⊢
        clear hv9
        obtain ⟨wo, rfl⟩ : ∃ wo : World, wo = w4 := ⟨_, rfl⟩
        go_loopw [9, 13, 47] (fun v9 v13 i wr => ∃ (x : Nat) (rq : List Value) (Q' : List Wd) (r : List Nat), i = .int .i64 x ∧ x ≤ m.l ∧ MQ w.heap.size w wr ((v13, 2, i64s (natsI r)) :: gS v9 rq Q' u11 rn N) b Q'.length (fQ Q') ∧ Hid (qRow m hh x Q = some (Q', r) ∧ rq.length = Q'.length)) (fun _ _ i _ => m.l - (intOf i).toNat)
        case atStart => exact ⟨0, rq, Q, [], rfl, Nat.zero_le _, HQ5.out, rfl, hrl⟩
        case round =>
          clear HQ5
          obtain ⟨x, rq, Q', r, rfl, hx, hQ, HR⟩ := hrel
          have hB := HB.out
          obtain ⟨hok1, -, -⟩ := bSt_ok hok hwf want HGW.out j hB.1
          have hw' := hok1.toQOk.at hlt
          rw [← HH.out] at hw'
          obtain ⟨hq1, hq2, hq3, hq4, hq5⟩ := QOk.row hok hwf hw'.1 hw'.2 hx hok1.toQOk HR.out.1
          have hrl' := HR.out.2
          have hmany' := hq1.many
          have hjl : j < Q'.length := by omega
          by_cases hxl : x < m.l
          · obtain ⟨g9, c9, a', d', rfl, e2, e3⟩ := hQ.mm.readQ hrl' (List.mem_cons_of_mem _ (List.mem_cons_self ..)) (fun y hy => List.mem_cons_of_mem _ (gS_rows y hy)) hjl
            rw [hq5 j hlt, ← HH.out] at e2 e3
            have HAT := Lib.hid (at_any G m hwf hok a' hh d' hw'.1 (by omega) x hxl wr (HG.out.keep hQ.mm.below) e3)
            have hsg := ledS_gw hok hwf hw'.1 hxl
            have hsl := ledS_len m hh x
            have hnn := nrm_len m (ledS m hh x)
            have hng := nrm_gw hsg
            have HNG := Lib.hid hng
            have HSG := Lib.hid hsg
            have HQ1 := Lib.hid hq1
            have i3 : (0 : Int) ≤ (x : Int) := by omega
            have i4 : (x : Int) < (m.l : Int) := by omega
            have i5 : (j : Int) < (Q'.length : Int) := by omega
            have hs1000 : (ledS m hh x).length ≤ 1000 := by omega
            have hn1000 : (nrm m (ledS m hh x)).length ≤ 1000 := by omega
            have HRS : Hid (qRow m hh (x + 1) Q = match qPut Q' (nrm m (ledS m hh x)) with | none => none | some (Q'', a) => some (Q'', r ++ [a])) := by
              show _ = _; rw [qRow, HR.out.1]; rfl
            clear hok1 hw' hq1 hq3 hq5 e3 hsg hsl hnn hng hB
            go_wp2_with fail
            refine HAT.out.mono ?_
            rintro e w5 ⟨v15, rfl, hb5, hO5⟩
            have hQ5 := hQ.call hb5
            obtain ⟨a15, c15, rfl, hI5⟩ := hO5.form
            have HI5 := Lib.hid hI5
            clear hO5 hI5 HAT hQ hb5
            go_wp2_with fail
            refine (normal_any G m hwf hok a15 (ledS m hh x) c15 HSG.out hs1000 _ (HG.out.keep hQ5.mm.below) HI5.out).mono ?_
            rintro e w6 ⟨v16, rfl, hb6, hO6⟩
            obtain ⟨S, hS⟩ : ∃ S, S = nrm m (ledS m hh x) := ⟨_, rfl⟩
            rw [← hS] at hO6 HRS HNG hn1000
            have hQ6 := hQ5.callOwn hb6 hO6 (by simp [i64s])
            obtain ⟨a16, c16, rfl, hI6⟩ := hO6.form
            have HI6 := Lib.hid hI6
            clear hO6 hI6 hQ5 hb6 hS
            go_wp2_with fail
            refine (key_any m hok a16 S c16 HNG.out hn1000 _ HI6.out).mono ?_
            rintro e w7 ⟨rfl, hb7⟩
            have HI7 := Lib.hid (HI6.out.keep hb7)
            have hQ7 := hQ6.call hb7
            have hks : (keyB S).size ≤ maxLen := by rw [keyB_size]; simp [maxLen]; omega
            have hlk := hQ7.map.look (keyB S) hks true
            have HKS := Lib.hid hks
            clear hQ6 HI6 hb7 hks
            by_cases hmem : S ∈ Q'
            · rw [fQ_mem hok HNG.out HQ1.out.gw hmem] at hlk
              simp only [if_true, Option.getD_some, Option.isSome_some] at hlk
              have HRX : Hid (qRow m hh (x + 1) Q = some (Q', r ++ [Q'.idxOf S])) := by show _ = _; rw [HRS.out, qPut, if_pos hmem]
              have hQ8 := hQ7.sub (List.sublist_cons_self _ _)
              have hrlen : (i64s (natsI r)).length ≤ 1000000 := by simp [i64s, natsI]; omega
              generalize Q'.idxOf S = I at *
              clear hmem HRS hQ7
              go_wp2_with (at_builtin; refine MQ.append rfl (.tmp 85) (.tmp 87) 26 rfl hQ8 0 rfl Try.underlying26 hi hz0 hz1 hz2 rfl rfl rfl rfl hrlen (by omega) ?_)
              intro g' cap' w8 hQ9
              have HQ9 : Hid (MQ w.heap.size w w8 ((.slice (some ⟨g', 0, none⟩) ((i64s (natsI r)).length + 1) cap', 2, i64s (natsI (r ++ [I]))) :: gS (.slice (some ⟨g9, 0, none⟩) Q'.length c9) rq Q' u11 rn N) b Q'.length (fQ Q')) := by
                show MQ _ _ _ _ _ _ _; simpa [i64s, natsI] using hQ9
              clear hQ8 hQ9 hlk
              go_wp2_with fail
              go_roundw
              case rel => exact ⟨x + 1, rq, Q', r ++ [I], by go_num, by omega, HQ9.out, HRX.out, hrl'⟩
              case measure => simp [intOf] <;> omega
            · rw [fQ_not hok HNG.out HQ1.out.gw hmem] at hlk
              simp only [if_true, Option.getD_none, Option.isSome_none] at hlk
              by_cases hfull : Q'.length = 200
              · have HRX : Hid (qRow m hh (x + 1) Q = none) := by show _ = _; rw [HRS.out, qPut, if_neg hmem, if_pos hfull]
                have HRR : Hid (secR m want g = .error 3) := by
                  have h1 := qRow_stop HRX.out (m.l - (x + 1))
                  rw [show x + 1 + (m.l - (x + 1)) = m.l by omega] at h1
                  have h2 := HBN.out
                  rw [h1] at h2
                  exact secR_err h2 (by have := HNL.out; omega)
                have hf2 : ((Q'.length : Int) == 200) = true := by simp; omega
                have hbl := hQ7.mm.below
                clear hmem HRS hQ7
                go_wp2_with fail
                go_ret3
                rw [HRR.out]
                exact ⟨rfl, hbl⟩
              · have HRX : Hid (qRow m hh (x + 1) Q = some (Q' ++ [S], r ++ [Q'.length])) := by show _ = _; rw [HRS.out, qPut, if_neg hmem, if_neg hfull]
                have hf2 : ((Q'.length : Int) == 200) = false := by simp; omega
                have HFQ := Lib.hid (fQ_snoc hok HNG.out HQ1.out.gw hmem)
                clear hmem HRS
                go_wp2_with fail
                refine (key_any m hok a16 S c16 HNG.out hn1000 _ HI7.out).mono ?_
                rintro e w8 ⟨rfl, hb8⟩
                have hQ8 := hQ7.call hb8
                obtain ⟨w9, hrun, hQ9⟩ := hQ8.put (by omega) (keyB S) Q'.length HKS.out (by omega)
                rw [← HFQ.out] at hQ9
                have HQ9 : Hid (MQ w.heap.size w w9 ((.slice a16 S.length c16, 2, i64s S) :: (u13, 2, i64s (natsI r)) :: (.slice (some ⟨g9, 0, none⟩) Q'.length c9, 26, rq) :: (u11, 26, rn) :: (rowG rq Q' ++ rowG rn (N.map natsI))) b (Q'.length + 1) (fQ (Q' ++ [S]))) := hQ9
                have hrq : rq.length ≤ 1000000 := by omega
                clear hQ8 hQ7 hQ9 hb8 hlk
                go_wp2_with (at_builtin; refine MQ.append rfl (.tmp 81) (.tmp 83) 35 rfl HQ9.out 2 rfl Try.underlying35 hJ hy0 hy1 hy2 rfl rfl rfl rfl hrq (by omega) ?_)
                intro g' cap' w10 hQ10
                have hQ11 : MQ w.heap.size w w10 ((u13, 2, i64s (natsI r)) :: gS (.slice (some ⟨g', 0, none⟩) (Q'.length + 1) cap') (rq ++ [.slice a16 S.length c16]) (Q' ++ [S]) u11 rn N) b (Q'.length + 1) (fQ (Q' ++ [S])) :=
                  hQ10.perm (gS_queue (v := .slice none 0 0) (X := (u13, 2, i64s (natsI r))) (g := S) hrl')
                have hrlen : (i64s (natsI r)).length ≤ 1000000 := by simp [i64s, natsI]; omega
                have hlq : (rq ++ [Value.slice a16 S.length c16]).length = (Q' ++ [S]).length := by simp [hrl']
                have HLQ := Lib.hid hlq
                clear hQ10 HQ9 hrun hlq
                go_wp2_with (at_builtin; refine MQ.append rfl (.tmp 85) (.tmp 87) 26 rfl hQ11 0 rfl Try.underlying26 hi hz0 hz1 hz2 rfl rfl rfl rfl hrlen (by omega) ?_)
                intro g2 cap2 w12 hQ12
                have HQ12 : Hid (MQ w.heap.size w w12 ((.slice (some ⟨g2, 0, none⟩) ((i64s (natsI r)).length + 1) cap2, 2, i64s (natsI (r ++ [Q'.length]))) :: gS (.slice (some ⟨g', 0, none⟩) (Q'.length + 1) cap') (rq ++ [.slice a16 S.length c16]) (Q' ++ [S]) u11 rn N) b (Q' ++ [S]).length (fQ (Q' ++ [S]))) := by
                  show MQ _ _ _ _ _ _ _; simpa [i64s, natsI] using hQ12
                clear hQ11 hQ12
                go_wp2_with fail
                go_roundw
                case rel => exact ⟨x + 1, _, Q' ++ [S], r ++ [Q'.length], by go_num, by omega, HQ12.out, HRX.out, HLQ.out⟩
                case measure => simp [intOf] <;> omega
          · have hx' : x = m.l := by omega
            subst hx'
            have HBX : Hid (bSt m want g (j + 1) = .ok (Q', N ++ [r])) := by
              show _ = _; rw [HBN.out, HR.out.1]
            have hQ8 : MQ w.heap.size w wr ((u13, 2, i64s (natsI r)) :: (u9, 26, rq) :: (u11, 26, rn) :: (rowG rq Q' ++ rowG rn (N.map natsI))) b Q'.length (fQ Q') := hQ
            have hrn : rn.length ≤ 1000000 := by have := HB.out.2.2.1; have := HNL.out; omega
            have HLN := Lib.hid HB.out.2.2
            obtain ⟨a13, c13, rfl⟩ : ∃ a13 c13, u13 = .slice a13 (natsI r).length c13 := by
              obtain ⟨a13, c13, e13, -⟩ := (OwnI.of_row (hQ.mm.own _ (List.mem_cons_self ..))).form
              exact ⟨_, _, e13⟩
            clear hq1 hq2 hq3 hq4 hq5 hw' hok1 hB hQ
            go_wp2_with (at_builtin; refine MQ.append rfl (.tmp 90) (.tmp 92) 35 rfl hQ8 2 rfl Try.underlying35 hJ hy0 hy1 hy2 rfl rfl rfl rfl hrn (by omega) ?_)
            intro g' cap' w10 hQ10
            have HQ10 : Hid (MQ w.heap.size w w10 (gS u9 rq Q' (.slice (some ⟨g', 0, none⟩) (rn.length + 1) cap') (rn ++ [.slice a13 (natsI r).length c13]) (N ++ [r])) b Q'.length (fQ Q')) := hQ10.perm (gS_next HLN.out.1)
            clear hQ8 hQ10
            go_wp2_with fail
            go_roundw
            case rel => exact ⟨j + 1, rq, _, Q', N ++ [r], by go_num, by omega, HQ10.out, HBX.out, hrl', by simp [HLN.out.1], by simp [HLN.out.2]⟩
            case measure => simp [intOf] <;> omega
    · have HR : Hid (secR m want g = .ok (Q, N)) := secR_end hB.1 (by omega) hj
      have HL := Lib.hid hB.2
      have hmm := hQ.mm
      have HMM := Lib.hid hmm
      clear hB hok1 hok2 hQ hmm
      go_wp2_with fail
      go_ret3
      rw [HR.out]
      exact ⟨_, rq, _, rn, rfl, HL.out.1, HL.out.2.1, HMM.out⟩
end Go.Proofs.Yteagecoiijhflaa

/- Equal machines; group words of the reference and of the program. -/
namespace Go.Proofs.Yteagecoiijhflaa
open Go.RowKit
set_option linter.unusedVariables false
set_option linter.unusedSimpArgs false

/-- a number that stands for a state; a list of them -/
def numB (m : Mch) (k : Int) : Bool := !(k == 0) && inR k (-m.S) m.S
def gwB (m : Mch) (xs : List Int) : Bool := decide (xs.length ≤ 40) && xs.all (numB m)
theorem all_from {p : Int → Bool} {xs : List Int} {k : Nat} (hk : k < xs.length) (h : p (xs[k]?.getD 0) = false) : xs.all p = false := by
  rw [List.all_eq_false]
  rw [List.getElem?_eq_getElem hk, Option.getD_some] at h
  exact ⟨xs[k], List.getElem_mem hk, by simp [h]⟩
theorem all_upto {p : Int → Bool} {xs : List Int} (h : ∀ j, j < xs.length → p (xs[j]?.getD 0) = true) : xs.all p = true := by
  rw [List.all_eq_true]
  intro x hx
  obtain ⟨j, hj, rfl⟩ := List.mem_iff_getElem.1 hx
  have := h j hj
  rwa [List.getElem?_eq_getElem hj, Option.getD_some] at this

set_option maxRecDepth 100000 in
set_option maxHeartbeats 1000000 in
theorem l02Numbers_any (m : Mch) (hwf : m.Wf) (hok : m.Ok) (a : Option Addr) (xs : List Int) (c : Nat) (hx : xs.length ≤ 1100000) (w : World) (hI : IntsAt w a xs) :
    Calls Try.prog 121 #[.agg m.cells.toArray, .slice a xs.length c] w (Ret (.bool (xs.all (numB m))) w) := by
  have hm := MAt.boxed w m 29
  have hb0 := boxedBelow w m.cells.toArray 29
  have HI := Lib.hid hI
  have h1 := hok.s1
  have h2 := hok.s16
  clear hI
  go_enter Try.func121, Try.ntmps121
  go_wp2
  go_loopw [5] (fun i wr => ∃ k : Nat, k ≤ xs.length ∧ i = .int .i64 k ∧ MAt wr w.heap.size 0 m ∧ Below w.heap.size w wr ∧ Hid (∀ j, j < k → numB m (xs[j]?.getD 0) = true)) (fun i _ => xs.length - (intOf i).toNat)
  case atStart => exact ⟨0, by omega, rfl, hm, hb0, fun j hj => by omega⟩
  case round =>
    clear hm hb0
    obtain ⟨k, hk, rfl, hm, hb, HA⟩ := hrel
    by_cases hlt : k < xs.length
    · obtain ⟨g, off, rfl, hc⟩ := HI.out k hlt
      rw [← hb.cell (p := ⟨g, off + k, none⟩) (World.block_lt_of_cell? w _ hc)] at hc
      have hs := hm.s
      have i1 : (0 : Int) ≤ (k : Int) := by omega
      have i2 : (k : Int) < (xs.length : Int) := by omega
      obtain ⟨x, hx'⟩ : ∃ x, x = xs[k]?.getD 0 := ⟨_, rfl⟩
      rw [← hx'] at hc
      have HXX := Lib.hid hx'
      clear hx'
      by_cases hz : x = 0
      · have HF : Hid (xs.all (numB m) = false) := all_from hlt (by rw [← HXX.out, hz]; rfl)
        have hz' : (x == 0) = true := by simpa using hz
        clear hz
        go_wp2
        go_quiet (fail)
        go_wp2
        go_ret
        exact ⟨ret_bool HF.out.symm, below_dN hb _⟩
      · have hz' : (x == 0) = false := by simpa using hz
        clear hz
        cases hr : inR x (-m.S) m.S
        · have HF : Hid (xs.all (numB m) = false) := all_from hlt (by rw [← HXX.out]; simp [numB, hr])
          go_wp2
          go_quiet ((go_at_call 54; exact Calls.quiet_of_same ((l01In_any _ _ _ _).mono fun _ _ h => ⟨h.1, h.2.symm⟩)))
          go_wp2
          go_ret
          exact ⟨ret_bool HF.out.symm, below_dN hb _⟩
        · have HN : Hid (∀ j, j < k + 1 → numB m (xs[j]?.getD 0) = true) := fun j hj => by
            by_cases e : j = k
            · subst e; rw [← HXX.out]; simp only [numB, hz', hr]; rfl
            · exact HA.out j (by omega)
          have hmd := hm.drewN 1
          have hbd := below_dN hb 1
          go_wp2
          go_quiet ((go_at_call 54; exact Calls.quiet_of_same ((l01In_any _ _ _ _).mono fun _ _ h => ⟨h.1, h.2.symm⟩)))
          go_wp2
          go_roundw
          case rel => exact ⟨k + 1, by omega, by go_num, hm.drewN _, below_dN hb _, HN⟩
          case measure => simp [intOf]; omega
    · have HF : Hid (xs.all (numB m) = true) := all_upto fun j hj => HA.out j (by omega)
      go_wp2
      go_ret
      exact ⟨ret_bool HF.out.symm, hb⟩

set_option maxRecDepth 100000 in
set_option maxHeartbeats 1000000 in
theorem l02Is_any (m : Mch) (hwf : m.Wf) (hok : m.Ok) (a : Option Addr) (xs : List Int) (c : Nat) (hx : xs.length ≤ 1100000) (w : World) (hI : IntsAt w a xs) :
    Calls Try.prog 84 #[.agg m.cells.toArray, .slice a xs.length c] w (Ret (.bool (gwB m xs)) w) := by
  have hm := MAt.boxed w m 29
  have hb0 := boxedBelow w m.cells.toArray 29
  have HI := Lib.hid (hI.keep hb0)
  have HO := Lib.hid hok
  clear hI hok
  go_enter Try.func84, Try.ntmps84
  by_cases h : xs.length ≤ 40
  · have HF : Hid (gwB m xs = xs.all (numB m)) := by show _ = _; simp [gwB, h]
    have h' : ¬ (40 : Int) < xs.length := by omega
    go_wp2_with ((with_reducible refine ld_mach ?_ (.tmp 2) ?_ (w.heap.size) (0) ?_ m hm hwf ?_); exact rfl; exact rfl; exact rfl)
    refine (l02Numbers_any m hwf HO.out a xs c hx _ HI.out).mono ?_
    rintro e w1 ⟨rfl, hb1⟩
    rw [← HF.out]
    have hbb := hb0.trans (hb1.mono hb0.size)
    go_wp2_with fail
    go_ret
    exact ⟨rfl, hbb⟩
  · have HF : Hid (gwB m xs = false) := by show _ = _; simp [gwB, h]
    have h' : (40 : Int) < xs.length := by omega
    go_wp2_with fail
    go_ret
    exact ⟨ret_bool HF.out.symm, hb0⟩

theorem enters_isGW : Enters 127 := fun args w => by kernel_rfl
set_option maxHeartbeats 1000000 in
theorem isGW1_any (m : Mch) (hwf : m.Wf) (hok : m.Ok) (b o : Nat) (x : Int) (w : World) (hm : MAt w b o m) :
    Calls Try.prog 127 #[.int .i64 x, .pointer (some ⟨b, o, none⟩)] w fun e w' => e = .returned (.bool (!numB m x)) ∧ w = w' := by
  have hs := hm.s
  have h1 := hok.s1
  have h2 := hok.s16
  go_enter Try.func127, Try.ntmps127
  by_cases hz : x = 0
  · have HF : Hid ((!numB m x) = true) := by show _ = _; rw [hz]; rfl
    have hz' : (x == 0) = true := by simpa using hz
    clear hz
    go_wp2_with fail
    go_ret
    exact ⟨ret_bool HF.out.symm, rfl⟩
  · have hz' : (x == 0) = false := by simpa using hz
    have HF : Hid ((!numB m x) = !inR x (-m.S) m.S) := by show _ = _; simp only [numB, hz']; simp
    clear hz
    go_wp2_with (go_at_call 59; refine (within_any _ _ _ _).mono ?_; rintro e w' ⟨rfl, rfl⟩)
    go_ret
    exact ⟨ret_bool HF.out.symm, rfl⟩
end Go.Proofs.Yteagecoiijhflaa

/- IsGroupWord; desks: sizes, copies, comparisons; IsDesk of both sides. -/
namespace Go.Proofs.Yteagecoiijhflaa
open Go.RowKit
set_option linter.unusedVariables false
set_option linter.unusedSimpArgs false

/-- a group word of a machine -/
def gwP (m : Mch) (xs : List Int) : Bool := machP m && gwB m xs

set_option maxRecDepth 100000 in
set_option maxHeartbeats 1000000 in
theorem IsGroupWord_any (m : Mch) (hwf : m.Wf) (a : Option Addr) (xs : List Int) (c : Nat) (hx : xs.length ≤ 1100000) (w : World) (hI : IntsAt w a xs) :
    Calls Try.prog 94 #[.agg m.cells.toArray, .slice a xs.length c] w (Ret (.bool (gwP m xs)) w) := by
  have hm := MAt.boxed w m 29
  have hb0 := boxedBelow w m.cells.toArray 29
  have hmf : ∀ (fn : Fn) (first cap : Array Value) (w : World), (Instr.makeFunc fn first cap).run Try.prog w = .ok (.func fn first cap) w := fun _ _ _ _ => rfl
  have HI := Lib.hid hI
  clear hI
  go_enter Try.func94, Try.ntmps94
  go_wp2_with ((with_reducible refine ld_mach ?_ (.tmp 2) ?_ (w.heap.size) (0) ?_ m hm hwf ?_); exact rfl; exact rfl; exact rfl)
  refine (IsMachine_any m hwf _).mono ?_
  rintro e w1 ⟨rfl, hb1⟩
  have hm1 := hm.keep hb1 hwf
  have hbb := hb0.trans (hb1.mono hb0.size)
  by_cases c1 : machP m = true
  · have hok := mach_ok c1
    rw [c1]
    by_cases h : xs.length ≤ 40
    · have HF : Hid (gwP m xs = !xs.any (fun x => !numB m x)) := by
        show _ = _
        simp only [gwP, gwB, c1, h, decide_true, Bool.true_and]
        rw [List.all_eq_not_any_not]
      have h' : (xs.length : Int) ≤ 40 := by omega
      go_wp2_with fail
      refine (containsFuncI_any _ enters_isGW #[.pointer (some ⟨w.heap.size, 0, none⟩)] a xs c (by omega) (fun x => !numB m x) w1 (fun w' => w' = w1) rfl (fun w' h => by rw [h]; exact HI.out.below hbb) (fun w' h i hi => by rw [h]; exact (isGW1_any m hwf hok w.heap.size 0 _ w1 hm1).mono fun e w'' ⟨he, hw⟩ => ⟨he, hw.symm⟩)).mono ?_
      rintro e w2 ⟨rfl, rfl⟩
      cases hb : xs.any (fun x => !numB m x)
      · rw [hb] at HF
        clear hb hmf
        go_wp2_with fail
        go_ret
        exact ⟨ret_bool HF.out.symm, hbb⟩
      · rw [hb] at HF
        clear hb hmf
        go_wp2_with fail
        go_ret
        exact ⟨ret_bool HF.out.symm, hbb⟩
    · have HF : Hid (gwP m xs = false) := by show _ = _; simp [gwP, gwB, h]
      have h' : ¬ (xs.length : Int) ≤ 40 := by omega
      go_wp2_with fail
      go_ret
      exact ⟨ret_bool HF.out.symm, hbb⟩
  · have HF : Hid (gwP m xs = false) := by show _ = _; simp [gwP, c1]
    have c1' : machP m = false := by simpa using c1
    clear c1
    rw [c1']
    go_wp2_with fail
    go_ret
    exact ⟨ret_bool HF.out.symm, hbb⟩

/-! Desks -/
/-- a slice value of numbers that reads as xs -/
def SlI (w : World) (v : Value) (xs : List Int) : Prop := ∃ a c, v = .slice a xs.length c ∧ IntsAt w a xs
end Go.Proofs.Yteagecoiijhflaa

/- isTrivial, groupOf, DoRelationsHold of the program. -/
namespace Go.Proofs.Yteagecoiijhflaa
open Go.RowKit
set_option linter.unusedVariables false
set_option linter.unusedSimpArgs false

theorem qRow_code {m : Mch} {want : Wd → Bool} {g : Wd} : ∀ {i : Nat} {c : Int}, bSt m want g i = .error c → c = 5 ∨ c = 3
  | 0, c, h => by cases h
  | i + 1, c, h => by
    rw [bSt] at h
    cases h1 : bSt m want g i with
    | error d =>
      rw [h1] at h
      simp only at h
      injection h with h
      subst h
      exact qRow_code h1
    | ok p =>
      obtain ⟨Q, N⟩ := p
      rw [h1] at h
      simp only at h
      split at h
      · split at h
        · split at h
          · injection h with h; exact .inr h.symm
          · cases h
        · injection h with h; exact .inl h.symm
      · cases h
theorem trvR_ok {m : Mch} {g : Wd} {p : List Wd × List (List Nat)} (h : secR m (leavesB m) g = .ok p) : trvR m g = (true, 0) := congrArg trvOf h
theorem trvR_five {m : Mch} {g : Wd} (h : secR m (leavesB m) g = .error 5) : trvR m g = (false, 0) := congrArg trvOf h
theorem trvR_three {m : Mch} {g : Wd} (h : secR m (leavesB m) g = .error 3) : trvR m g = (false, 3) := congrArg trvOf h
theorem enters_leaves : Enters 101 := fun args w => by kernel_rfl

set_option maxRecDepth 100000 in
set_option maxHeartbeats 2000000 in
theorem isTrivial_any (G : Nat) (m : Mch) (hwf : m.Wf) (hok : m.Ok) (a : Option Addr) (g : Wd) (c : Nat) (hg : GW m g) (hl : g.length ≤ 1000) (w : World) (hG : GrpR w G m) (hI : IntsAt w a g) :
    Calls Try.prog 63 #[.pointer (some ⟨G, 0, none⟩), .slice a g.length c] w (Ret (.tuple #[.bool (trvR m g).1, .int .i64 (trvR m g).2]) w) := by
  have hmf : ∀ (fn : Fn) (first cap : Array Value) (w : World), (Instr.makeFunc fn first cap).run Try.prog w = .ok (.func fn first cap) w := fun _ _ _ _ => rfl
  have HG := Lib.hid hG
  have HS := Lib.hid (sections_any G m hwf hok (leavesB m) 101 enters_leaves #[.pointer (some ⟨G, 0, none⟩)] #[] a g c hg hl w hG hI (fun W hW h a c hh hl hI => by
    have := leaves_any G m hwf hok a h c hh hl W (hG.keep hW) hI
    simpa using this))
  clear hG hI
  go_enter Try.func63, Try.ntmps63
  go_wp2_with fail
  refine HS.out.mono ?_
  intro e w1 hR
  cases hs : secR m (leavesB m) g with
  | error c =>
    rw [hs] at hR
    obtain ⟨rfl, hb⟩ := hR
    rcases qRow_code hs with rfl | rfl
    · have HT := Lib.hid (trvR_five hs)
      clear hmf HS
      go_wp2_with fail
      go_ret2
      rw [HT.out]
      exact ⟨rfl, hb⟩
    · have HT := Lib.hid (trvR_three hs)
      clear hmf HS
      go_wp2_with fail
      go_ret2
      rw [HT.out]
      exact ⟨rfl, hb⟩
  | ok p =>
    obtain ⟨Q, N⟩ := p
    rw [hs] at hR
    obtain ⟨v9, rq, v11, rn, rfl, -, -, hM⟩ := hR
    have HT := Lib.hid (trvR_ok hs)
    have hb := hM.below
    clear hmf HS hM
    go_wp2_with fail
    go_ret2
    rw [HT.out]
    exact ⟨rfl, hb⟩

theorem gwP_gw {m : Mch} {g : Wd} (h : gwP m g = true) : m.Ok ∧ GW m g ∧ g.length ≤ 40 := by
  simp only [gwP, Bool.and_eq_true] at h
  have hok := mach_ok h.1
  simp only [gwB, Bool.and_eq_true, decide_eq_true_eq, List.all_eq_true] at h
  refine ⟨hok, fun k hk => ?_, h.2.1⟩
  have := h.2.2 k hk
  simp only [numB, inR, Bool.and_eq_true, decide_eq_true_eq, Bool.not_eq_true', beq_eq_false_iff_ne] at this
  rw [hok.S_eq] at this
  exact ⟨this.1, this.2.1, this.2.2⟩

/-- the words of a list are words of a machine -/
def gwsB (m : Mch) (rows : List Wd) : Bool := machP m && rows.all (gwB m)
end Go.Proofs.Yteagecoiijhflaa

/- A region in drawn order by what holds at each set of operations that are done. -/
namespace Go.Proofs.Yteagecoiijhflaa
open Go.RowKit
set_option linter.unusedVariables false
set_option linter.unusedSimpArgs false
section
variable {P : Program} {ops : Array Oper} {Q : Exit → Act → World → Prop} {md : Region.Mode} {S : World → Prop} {L : List Nat}
/-- how many operations are left -/
def leftN (n : Nat) (listed : Array Bool) : Nat := ((List.range n).filter fun i => !listed.getD i true).length
theorem filter_drop {α : Type} {p q : α → Bool} : ∀ {l : List α}, (∀ x ∈ l, q x = true → p x = true) → (∃ x ∈ l, p x = true ∧ q x = false) → (l.filter q).length < (l.filter p).length
  | [], _, ⟨x, hx, _⟩ => by cases hx
  | y :: l, h, ⟨x, hx, hp, hq⟩ => by
    have hle : ∀ l : List α, (∀ x ∈ l, q x = true → p x = true) → (l.filter q).length ≤ (l.filter p).length := by
      intro l
      induction l with
      | nil => intro _; simp
      | cons z l ih =>
        intro h
        have := ih (fun x hx => h x (List.mem_cons_of_mem _ hx))
        have hz := h z (List.mem_cons_self ..)
        simp only [List.filter_cons]
        cases h1 : q z
        · cases h2 : p z <;> simp <;> omega
        · rw [hz h1]; simp; omega
    rcases List.mem_cons.1 hx with e | hx
    · subst e
      simp only [List.filter_cons, hp, hq, if_true, Bool.false_eq_true, if_false, List.length_cons]
      have := hle l (fun x hx => h x (List.mem_cons_of_mem _ hx))
      omega
    · have := filter_drop (fun x hx => h x (List.mem_cons_of_mem _ hx)) ⟨x, hx, hp, hq⟩
      have hy := h y (List.mem_cons_self ..)
      simp only [List.filter_cons]
      cases h1 : q y
      · cases h2 : p y <;> simp <;> omega
      · rw [hy h1]; simp; omega
theorem leftN_lt {listed : Array Bool} {i : Nat} (hi : i ∈ Region.ready md ops listed) : leftN ops.size (listed.setIfInBounds i true) < leftN ops.size listed := by
  obtain ⟨h0, o, ho, _⟩ := mem_ready.1 hi
  have hlt : i < ops.size := (Array.getElem?_eq_some_iff.1 ho).1
  refine filter_drop (fun x _ hx => ?_) ⟨i, by simpa using hlt, by simp [h0], ?_⟩
  · by_cases e : i = x
    · subst e; rw [h0]; rfl
    · rw [getD_set_ne true e] at hx; exact hx
  · have hs : i < listed.size := by
      rcases Nat.lt_or_ge i listed.size with h | h
      · exact h
      · simp [Array.getElem?_eq_none h] at h0
    simp [Array.getD, hs]
theorem AnyS.inv (Inv : Array Bool → Act → World → Prop) (hS : ∀ l a w, Inv l a w → S w)
    (h : ∀ l a w, Inv l a w → (∀ n, leftN ops.size l ≤ n → AnyS P md ops Q S L n l a w) ∨
      (Region.ready md ops l ≠ [] ∧ ∀ i ∈ Region.ready md ops l, wpOp P ops Q i (fun a' w' => Inv (l.setIfInBounds i true) a' w') a w)) :
    ∀ (n : Nat) (l : Array Bool) (a : Act) (w : World), Inv l a w → leftN ops.size l ≤ n → AnyS P md ops Q S L n l a w := by
  intro n
  induction n with
  | zero =>
    intro l a w hi hn
    rcases h l a w hi with h | ⟨hne, _⟩
    · exact h 0 hn
    · exfalso
      obtain ⟨i, hi⟩ := List.exists_mem_of_ne_nil _ hne
      have := leftN_lt hi
      omega
  | succ n ih =>
    intro l a w hi hn
    rcases h l a w hi with h | ⟨hne, hst⟩
    · exact h _ hn
    · refine ⟨fun e => absurd e hne, fun i hi => wpOp_mono (fun a' w' h' => ⟨.inl (hS _ _ _ h'), ih _ _ _ h' (by have := leftN_lt hi; omega)⟩) (hst i hi)⟩
end
end Go.Proofs.Yteagecoiijhflaa

/- The reference's group words: l02State, l02Normal, l02Step, l02Led, l02Like, l02Find. -/
namespace Go.Proofs.Yteagecoiijhflaa
open Go.RowKit
set_option linter.unusedVariables false
set_option linter.unusedSimpArgs false

theorem l02State_any (k : Int) (h0 : k ≠ 0) (h1 : -100 ≤ k) (h2 : k ≤ 100) (w : World) :
    Calls Try.prog 123 #[.int .i64 k] w fun e w' => e = .returned (.int .i64 (stN k : Int)) ∧ w = w' := by
  by_cases hs : 0 < k
  · have e1 : (stN k : Int) = k - 1 := by simp only [stN]; omega
    rw [e1]
    clear e1
    go_enter Try.func123, Try.ntmps123
    go_wp2_with fail
    go_ret
    exact ⟨rfl, rfl⟩
  · have e1 : (stN k : Int) = -k - 1 := by simp only [stN]; omega
    rw [e1]
    have h3 : k < 0 := by omega
    clear e1 h0 hs
    go_enter Try.func123, Try.ntmps123
    go_wp2_with fail
    go_ret
    exact ⟨rfl, rfl⟩

set_option maxRecDepth 100000 in
set_option maxHeartbeats 1000000 in
theorem l02Step_any (m : Mch) (hwf : m.Wf) (hok : m.Ok) (k : Int) (hk : k ≠ 0 ∧ -(m.s : Int) ≤ k ∧ k ≤ m.s) (x : Nat) (hx : x < m.l) (w : World) :
    Calls Try.prog 122 #[.agg m.cells.toArray, .agg (invM m).cells.toArray, .int .i64 k, .int .u8 (x : Int)] w (Ret (.tuple #[.int .u8 (stpX m k x), .int .i64 (stpK m k x)]) w) := by
  have h16 := hok.s_le
  have h3 := hok.l_le
  have hq := stN_lt hk
  have hwi := invM_wf hok hwf
  have hoi := invM_ok hok hwf
  have hm := (MAt.boxed w m 29).alloc (by simp) (.cells (invM m).cells.toArray 29)
  have hi := MAt.boxed (w.alloc (.cells m.cells.toArray 29)) (invM m) 29
  rw [show (w.alloc (.cells m.cells.toArray 29)).heap.size = w.heap.size + 1 by simp] at hi
  have hb0 := (boxedBelow w m.cells.toArray 29).alloc (by simp) (.cells (invM m).cells.toArray 29)
  have a1 := hm.nn hwf (q := stN k) (x := x) (by omega) (by omega)
  have a2 := hm.oo hwf (q := stN k) (x := x) (by omega) (by omega)
  have a3 := hi.nn hwi (q := stN k) (x := x) (by omega) (by omega)
  have a4 := hi.oo hwi (q := stN k) (x := x) (by omega) (by omega)
  rw [hok.n_eq hwf hq hx] at a1
  rw [hok.o_eq hwf hq hx] at a2
  rw [hoi.n_eq hwi hq hx, invM_nn hok hq hx] at a3
  rw [hoi.o_eq hwi hq hx, invM_on hok hq hx] at a4
  have b1 := hok.nn_lt hwf hq hx
  have b2 := hok.on_lt hwf hq hx
  have b3 := (invX_spec hok hwf hq hx).1
  have b4 := hok.nn_lt hwf hq b3
  have HST := Lib.hid (fun w => l02State_any k hk.1 (by omega) (by omega) w)
  by_cases h0 : 0 < k
  · have HX : Hid (stpX m k x = m.on (stN k) x) := by show _ = _; rw [stpX, if_pos h0]
    have HK : Hid (stpK m k x = (m.nn (stN k) x : Int) + 1) := by show _ = _; rw [stpK, if_pos h0]
    rw [HX.out, HK.out]
    have e2 : IntKind.i64.wrap ((m.nn (stN k) x : Int) + 1) = (m.nn (stN k) x : Int) + 1 := by rw [IntWalk.i64_in _ (by omega)]
    clear HX HK hm hi a3 a4 b3 b4 hk
    go_enter Try.func122, Try.ntmps122
    generalize stN k = q at *
    generalize m.on q x = Y at *
    generalize m.nn q x = Z at *
    have i1 : (0 : Int) ≤ (q : Int) := by omega
    have i2 : (q : Int) < 16 := by omega
    have i3 : (0 : Int) ≤ (x : Int) := by omega
    have i4 : (x : Int) < 3 := by omega
    have i5 : (0 : Int) ≤ (Z : Int) := by omega
    have i6 : (Z : Int) ≤ 16 := by omega
    go_wp2_with (go_at_call 123; refine (HST.out _).mono ?_; rintro e w' ⟨rfl, rfl⟩)
    go_quiet (fail)
    go_wp2_with fail
    go_ret2
    exact ⟨rfl, below_dN hb0 _⟩
  · have HX : Hid (stpX m k x = invX m (stN k) x) := by show _ = _; rw [stpX, if_neg h0]
    have HK : Hid (stpK m k x = -((m.nn (stN k) (invX m (stN k) x) : Int) + 1)) := by show _ = _; rw [stpK, if_neg h0]; omega
    rw [HX.out]
    obtain ⟨R, hR⟩ : ∃ R, R = stpK m k x := ⟨_, rfl⟩
    rw [← hR]
    have HR : Hid (R = -((m.nn (stN k) (invX m (stN k) x) : Int) + 1)) := by show _ = _; rw [hR, HK.out]
    have e2 : IntKind.i64.wrap ((m.nn (stN k) (invX m (stN k) x) : Int) + 1) = (m.nn (stN k) (invX m (stN k) x) : Int) + 1 := by rw [IntWalk.i64_in _ (by omega)]
    have e3 : IntKind.i64.wrap (-((m.nn (stN k) (invX m (stN k) x) : Int) + 1)) = -((m.nn (stN k) (invX m (stN k) x) : Int) + 1) := by rw [IntWalk.i64_in _ (by omega)]
    have hneg : k = -((stN k : Int) + 1) := by simp only [stN]; omega
    obtain ⟨WD, hWD⟩ : ∃ WD, WD = (w.alloc (.cells m.cells.toArray 29)).alloc (.cells (invM m).cells.toArray 29) := ⟨_, rfl⟩
    rw [← hWD] at a3 a4 hb0
    have HWD := Lib.hid hWD
    clear HX HK hm hi a1 a2 b1 b2 hk e2 e3 hWD hR
    go_enter Try.func122, Try.ntmps122
    generalize stN k = q at *
    subst hneg
    generalize invX m q x = Y at *
    generalize m.nn q Y = Z at *
    have i1 : (0 : Int) ≤ (q : Int) := by omega
    have i2 : (q : Int) < 16 := by omega
    have i3 : (0 : Int) ≤ (x : Int) := by omega
    have i4 : (x : Int) < 3 := by omega
    have i5 : (0 : Int) ≤ (Z : Int) := by omega
    have i6 : (Z : Int) ≤ 16 := by omega
    go_wp2_with fail
    refine (HST.out _).mono ?_
    rintro e w' ⟨rfl, rfl⟩
    rw [← HWD.out]
    go_wp2_with fail
    have e2 : IntKind.i64.wrap ((Z : Int) + 1) = (Z : Int) + 1 := by rw [IntWalk.i64_in _ (by omega)]
    have e3 : IntKind.i64.wrap (-((Z : Int) + 1)) = -((Z : Int) + 1) := by rw [IntWalk.i64_in _ (by omega)]
    go_quiet (fail)
    clear e2 e3
    go_wp2_with fail
    go_ret2
    rw [HR.out]
    exact ⟨rfl, below_dN hb0 _⟩

set_option maxRecDepth 100000 in
set_option maxHeartbeats 4000000 in
theorem l02Led_any (m : Mch) (hwf : m.Wf) (hok : m.Ok) (a : Option Addr) (g : Wd) (c : Nat) (hg : GW m g) (hl : g.length ≤ 1000) (x : Nat) (hx : x < m.l) (w : World) (hI : IntsAt w a g) :
    Calls Try.prog 86 #[.agg m.cells.toArray, .agg (invM m).cells.toArray, .slice a g.length c, .int .u8 (x : Int)] w fun e w' => ∃ v, e = .returned (.tuple #[.int .u8 (ledX m g x : Int), v]) ∧ Below w.heap.size w w' ∧ OwnI w' w.heap.size v (ledS m g x) := by
  obtain ⟨i0, hi, hz0, hz1, hz2⟩ := info_parts Try.info2
  have hwi := invM_wf hok hwf
  have HI := Lib.hid hI
  have HGW := Lib.hid hg
  have hM0 := (((Mm.start w).alloc m.cells.toArray 29).alloc (invM m).cells.toArray 29).alloc #[] 2
  rw [show (w.alloc (.cells m.cells.toArray 29)).heap.size = w.heap.size + 1 by simp, show ((w.alloc (.cells m.cells.toArray 29)).alloc (.cells (invM m).cells.toArray 29)).heap.size = w.heap.size + 1 + 1 by simp] at hM0
  have hM1 := hM0.addOwn (b := w.heap.size + 1 + 1) (cs := []) (T := 2) (by simp) 0 rfl (by omega)
  have HM1 : Hid (Mm w.heap.size w (((w.alloc (.cells m.cells.toArray 29)).alloc (.cells (invM m).cells.toArray 29)).alloc (.cells #[] 2)) [(w.heap.size + 1, (invM m).cells, 29), (w.heap.size, m.cells, 29)] [(.slice (some ⟨w.heap.size + 1 + 1, 0, none⟩) 0 0, 2, i64s (ledS m (g.take 0) x))]) := by
    have hne : (w.heap.size != w.heap.size + 1 + 1) = true := by simp; omega
    have hne2 : (w.heap.size + 1 != w.heap.size + 1 + 1) = true := by simp
    simp only [List.filter_cons, List.filter_nil, hne, hne2, bne_self_eq_false, Bool.false_eq_true, if_false, if_true] at hM1
    show Mm _ _ _ _ _; simpa [ledS, i64s] using hM1
  have HIM := Lib.hid (mach_info hwf)
  have HII := Lib.hid (mach_info hwi)
  have hmx : Try.prog.follows .mixedOrders = true := by kernel_rfl
  have HMX := Lib.hid hmx
  clear hI hg hM0 hM1 hmx
  go_enter Try.func86, Try.ntmps86
  go_wp2_with fail
  go_loopw [3, 10, 11] (fun y v i wr => ∃ j : Nat, j ≤ g.length ∧ i = .int .i64 j ∧ y = .int .u8 (ledX m (g.take j) x : Int) ∧ Mm w.heap.size w wr [(w.heap.size + 1, (invM m).cells, 29), (w.heap.size, m.cells, 29)] [(v, 2, i64s (ledS m (g.take j) x))]) (fun _ _ i _ => g.length - (intOf i).toNat)
  case atStart => exact ⟨0, Nat.zero_le _, rfl, rfl, HM1.out⟩
  case round =>
    clear HM1
    obtain ⟨j, hj, rfl, rfl, hM⟩ := hrel
    by_cases hlt : j < g.length
    · obtain ⟨b, off, rfl, e1⟩ := HI.out j hlt
      have hk := HGW.out.at hlt
      have hy : ledX m (g.take j) x < m.l := ledX_lt hok hwf (HGW.out.sub fun k hk => List.mem_of_mem_take hk) hx
      have HX := Lib.hid (ledX_take m g x j hlt)
      have HSS : Hid (ledS m (g.take (j + 1)) x = ledS m (g.take j) x ++ [stpK m (g[j]?.getD 0) (ledX m (g.take j) x)]) := by
        show _ = _; rw [take_snocI hlt, ledS_append]; rfl
      have hsl : (ledS m (g.take j) x).length ≤ 1000 := by rw [ledS_len, List.length_take]; omega
      have HSL := Lib.hid hsl
      have HST := Lib.hid (fun W => l02Step_any m hwf hok (g[j]?.getD 0) hk (ledX m (g.take j) x) hy W)
      have HSM : Hid (∀ W, Below w.heap.size w W → MAt W w.heap.size 0 m → MAt W (w.heap.size + 1) 0 (invM m) → MAt W w.heap.size 0 m ∧ MAt W (w.heap.size + 1) 0 (invM m) ∧ W.cell? ⟨b, off + j, none⟩ = some (.int .i64 (g[j]?.getD 0))) := fun W hW h1 h2 =>
        ⟨h1, h2, (hW.cell (World.block_lt_of_cell? w _ e1)).trans e1⟩
      have i1 : (0 : Int) ≤ (j : Int) := by omega
      have i2 : (j : Int) < (g.length : Int) := by omega
      clear e1 hk hy hsl
      generalize ledX m (g.take j) x = y at *
      obtain ⟨o, ho⟩ : ∃ o, o = ledS m (g.take j) x := ⟨_, rfl⟩
      rw [← ho] at hM HSS HSL
      generalize g[j]?.getD 0 = k at *
      clear ho
      go_wp2_with fail
      have hMd := hM.drew
      refine region_S (fun W => MAt W w.heap.size 0 m ∧ MAt W (w.heap.size + 1) 0 (invM m) ∧ W.cell? ⟨b, off + j, none⟩ = some (.int .i64 k)) [] 13 rfl HMX.out (HSM.out _ hMd.below (hMd.mach 1 rfl) (hMd.mach 0 rfl)) (fun hU => ?_)
      obtain ⟨W, hW⟩ : ∃ W, W = wr.drew := ⟨_, rfl⟩
      rw [← hW] at hU hMd ⊢
      clear hW hM
      (refine AnyS.takeS (i := 0) rfl (by kernel_rfl) (by kernel_rfl) (by kernel_rfl) (by rfl) (by kernel_rfl) (by kernel_rfl) (fun _ _ _ h => h) (by rfl) (fun W hW => run_ld Try.underlying29 rfl HIM.out (.tmp 4) rfl rfl hW.1) hU (fun hU => ?_); (try simp only [Act.put, List.setIfInBounds_toArray, List.set_cons_zero, List.set_cons_succ]))
      (refine AnyS.takeS (i := 1) rfl (by kernel_rfl) (by kernel_rfl) (by kernel_rfl) (by rfl) (by kernel_rfl) (by kernel_rfl) (fun _ _ _ h => h) (by rfl) (fun W hW => run_ld Try.underlying29 rfl HII.out (.tmp 5) rfl rfl hW.2.1) hU (fun hU => ?_); (try simp only [Act.put, List.setIfInBounds_toArray, List.set_cons_zero, List.set_cons_succ]))
      (refine AnyS.take (i := 2) rfl (by kernel_rfl) (by kernel_rfl) (by kernel_rfl) (by rfl) (fun _ _ _ h => h) (by rfl) (by intro w; go_simp; with_reducible rfl) hU (fun hU => ?_); (try simp only [Act.put, List.setIfInBounds_toArray, List.set_cons_zero, List.set_cons_succ]); refine AnyS.take (i := 3) rfl (by kernel_rfl) (by kernel_rfl) (by kernel_rfl) (by rfl) (fun _ _ _ h => h) (by rfl) (by intro w; go_simp; with_reducible rfl) hU (fun hU => ?_); (try simp only [Act.put, List.setIfInBounds_toArray, List.set_cons_zero, List.set_cons_succ]); refine AnyS.take (i := 4) rfl (by kernel_rfl) (by kernel_rfl) (by kernel_rfl) (by rfl) (fun _ _ _ h => h) (by rfl) (by intro w; go_simp; with_reducible rfl) hU (fun hU => ?_); (try simp only [Act.put, List.setIfInBounds_toArray, List.set_cons_zero, List.set_cons_succ]))
      (refine AnyS.takeS (i := 5) rfl (by kernel_rfl) (by kernel_rfl) (by kernel_rfl) (by rfl) (by kernel_rfl) (by kernel_rfl) (fun _ _ _ h => h) (by rfl) (by intro W hSw; have h1 := hSw.2.2; clear hSw; go_simp; with_reducible rfl) hU (fun hU => ?_); (try simp only [Act.put, List.setIfInBounds_toArray, List.set_cons_zero, List.set_cons_succ]))
      (refine AnyS.take (i := 6) rfl (by kernel_rfl) (by kernel_rfl) (by kernel_rfl) (by rfl) (fun _ _ _ h => h) (by rfl) (by intro w; go_simp; with_reducible rfl) hU (fun hU => ?_); (try simp only [Act.put, List.setIfInBounds_toArray, List.set_cons_zero, List.set_cons_succ]))
      refine AnyS.branch (rs := [7]) (by kernel_rfl) (by simp) (AllS.cons rfl (fun K hK => ?_) AllS.nil)
      go_simp
      refine (HST.out _).mono ?_
      rintro e w4 ⟨rfl, hb4⟩
      have hM4 := hMd.call hb4
      refine hK.out _ _ (.inl (HSM.out _ hM4.below (hM4.mach 1 rfl) (hM4.mach 0 rfl))) (fun hU => ?_)
      clear hK K hMd
      (try simp only [Act.put, List.setIfInBounds_toArray, List.set_cons_zero, List.set_cons_succ])
      (refine AnyS.take (i := 8) rfl (by kernel_rfl) (by kernel_rfl) (by kernel_rfl) (by rfl) (fun _ _ _ h => h) (by rfl) (by intro w; go_simp; with_reducible rfl) hU (fun hU => ?_); (try simp only [Act.put, List.setIfInBounds_toArray, List.set_cons_zero, List.set_cons_succ]); refine AnyS.take (i := 9) rfl (by kernel_rfl) (by kernel_rfl) (by kernel_rfl) (by rfl) (fun _ _ _ h => h) (by rfl) (by intro w; go_simp; with_reducible rfl) hU (fun hU => ?_); (try simp only [Act.put, List.setIfInBounds_toArray, List.set_cons_zero, List.set_cons_succ]); refine AnyS.take (i := 10) rfl (by kernel_rfl) (by kernel_rfl) (by kernel_rfl) (by rfl) (fun _ _ _ h => h) (by rfl) (by intro w; go_simp; with_reducible rfl) hU (fun hU => ?_); (try simp only [Act.put, List.setIfInBounds_toArray, List.set_cons_zero, List.set_cons_succ]); refine AnyS.take (i := 11) rfl (by kernel_rfl) (by kernel_rfl) (by kernel_rfl) (by rfl) (fun _ _ _ h => h) (by rfl) (by intro w; go_simp; with_reducible rfl) hU (fun hU => ?_); (try simp only [Act.put, List.setIfInBounds_toArray, List.set_cons_zero, List.set_cons_succ]); refine AnyS.take (i := 12) rfl (by kernel_rfl) (by kernel_rfl) (by kernel_rfl) (by rfl) (fun _ _ _ h => h) (by rfl) (by intro w; go_simp; with_reducible rfl) hU (fun hU => ?_); (try simp only [Act.put, List.setIfInBounds_toArray, List.set_cons_zero, List.set_cons_succ]))
      refine AnyS.done (by kernel_rfl) ?_ _
      have hol : (i64s o).length ≤ 1000000 := by have := HSL.out; simp [i64s]; omega
      have HM4 := Lib.hid hM4
      clear hU hM4
      go_wp2_with (at_builtin; refine Mm.append rfl (.tmp 33) (.tmp 35) 26 rfl HM4.out 0 rfl Try.underlying26 hi hz0 hz1 hz2 rfl rfl rfl rfl hol (by omega) ?_)
      intro g' cap' w5 hM5
      have HM5 : Hid (Mm w.heap.size w w5 [(w.heap.size + 1, (invM m).cells, 29), (w.heap.size, m.cells, 29)] [(.slice (some ⟨g', 0, none⟩) ((i64s o).length + 1) cap', 2, i64s (ledS m (g.take (j + 1)) x))]) := by
        rw [HSS.out]; show Mm _ _ _ _ _; simpa [i64s] using hM5
      clear HM4 hM5
      go_wp2_with fail
      go_roundw
      case rel => exact ⟨j + 1, by omega, by go_num, by rw [HX.out], HM5.out⟩
      case measure => simp [intOf] <;> omega
    · have hj' : j = g.length := by omega
      subst hj'
      rw [List.take_length] at hM ⊢
      have ho : Hid (OwnI wr w.heap.size u10 (ledS m g x)) := OwnI.of_row (hM.own _ (List.mem_cons_self ..))
      have hb := hM.below
      clear hM
      go_wp2_with fail
      go_ret2
      exact ⟨_, rfl, hb, ho.out⟩
end Go.Proofs.Yteagecoiijhflaa
