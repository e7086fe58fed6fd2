import Derived.Test.YthgkkaifdlkciaaYKind10
import Derived.Test.YthgkkaifdlkciaaYKind09
/- (*Machine).minimal of the program. -/
namespace Go.Proofs.Ythgkkaifdlkciaa
open Go.RowKit
set_option linter.unusedVariables false
set_option linter.unusedSimpArgs false

theorem st_rowK {P : Program} {ops : Array Oper} {o : Oper} {a : Act} {w : World} {K : Act → World → Prop} {Q : Exit → Act → World → Prop} (hwd : Region.wanted o (yielded ops a.tmps) = true) (T : TypeId) (x y : Operand) (ho : o.op = .store T x y)
    (b off : Nat) (cs : List Value) (hx : a.eval x = .pointer (some ⟨b, off, none⟩)) (hy : a.eval y = .agg cs.toArray) (ht : w.there b off cs.length) (hi : (P.info? T).map (·.size) = some cs.length) (h1 : ∀ v ∈ cs, v.oneCell' = true)
    (h : K (a.put o.dst undef) (w.setCells b off cs)) : if Region.wanted o (yielded ops a.tmps) = true then Oper.wp P o a w K Q else K (a.put o.dst undef) w := by
  rw [if_pos hwd]
  exact wp_store_mid T x y ho b off cs.toArray hx hy (by rw [List.size_toArray]; exact ht) (by rw [List.size_toArray]; exact hi) (all_oneCell_toArray h1) h
theorem OwnI.outerK {w : World} {B : Nat} {v : Value} {xs : List Int} (ho : OwnI w B v xs) {b : Nat} (hb : b < B) (o : Nat) (vs : List Value) : OwnI (w.setCells b o vs) B v xs := by
  refine ⟨ho.1, ?_⟩
  rcases ho.2 with hn | ⟨g, cap, cur, hv, h1, h2, rest⟩
  · exact .inl hn
  · have hg : Blk w g cur.toList 2 := by show _ = _; simpa using h2
    have := hg.setsOther (by omega : g ≠ b) vs o
    exact .inr ⟨g, cap, cur, hv, h1, by simpa [Blk] using this, rest⟩
theorem minM_gath (m : Mch) : minM m = gathM m.L m.tbl m.tbl.reps m.tbl.num := rfl
theorem reps_nodup (t : Tbl) : t.reps.Nodup := List.Pairwise.filter _ List.nodup_range
theorem reps_idx {t : Tbl} {q : Nat} (hq : q < t.n) : t.fin q ∈ t.reps ∧ t.reps.idxOf (t.fin q) = t.num q := by
  have h1 := Tbl.reps_num (t := t) hq
  have hl := (List.getElem?_eq_some_iff.1 h1).1
  rw [List.getElem?_eq_getElem hl] at h1
  injection h1 with h1
  have hm : t.fin q ∈ t.reps := by rw [← h1]; exact List.getElem_mem hl
  have hil := List.idxOf_lt_length_iff.2 hm
  have h2 : t.reps[t.reps.idxOf (t.fin q)] = t.fin q := List.getElem_idxOf hil
  exact ⟨hm, (List.getElem_inj (reps_nodup t)).1 (h2.trans h1.symm)⟩
theorem reps_upto_succ (t : Tbl) (k : Nat) : ((List.range (k + 1)).filter fun r => t.fin r == r) = ((List.range k).filter fun r => t.fin r == r) ++ if (t.fin k == k) = true then [k] else [] := filter_range_succ (fun r => t.fin r == r) k

set_option maxHeartbeats 400000 in
theorem minimal1_any (t : Tbl) (hn : t.n ≤ 1000) (b8 b9 : Nat) (aS aF : Option Addr) (cS cF : Nat) (S : List Nat) (hSl : S.length ≤ 1000) (r : Nat) (hr : r < t.n) (hm : t.fin r ∈ S) (w : World)
    (h9 : w.cell? ⟨b9, 0, none⟩ = some (.slice aS (natsI S).length cS)) (h8 : w.cell? ⟨b8, 0, none⟩ = some (.slice aF (finL t).length cF)) (hS : IntsAt w aS (natsI S)) (hF : IntsAt w aF (finL t)) :
    Calls Try.prog 72 #[.int .i64 (r : Int), .pointer (some ⟨b9, 0, none⟩), .pointer (some ⟨b8, 0, none⟩)] w (RetQ (.int .i64 (S.idxOf (t.fin r) : Int)) w) := by
  have HIX : Hid (∀ d, Calls Try.prog 33 #[.slice aS (natsI S).length cS, .int .i64 (t.fin r : Int)] (w.drewN d) (RetQ (.int .i64 (idxI (natsI S) (t.fin r : Int))) (w.drewN d))) := fun d =>
    slIndexI_any aS cS (natsI S) (t.fin r : Int) (by rw [natsI_len]; omega) (w.drewN d) (hS.keep (dN_below w d))
  have HV := Lib.hid (idxI_nats hm)
  obtain ⟨g, o, rfl, c⟩ := hF r (by rw [finL_len]; exact hr)
  rw [finL_get t hr] at c
  have i1 : (0 : Int) ≤ (r : Int) := by omega
  have i2 : (r : Int) < ((finL t).length : Int) := by rw [finL_len]; omega
  generalize t.fin r = fr at *
  clear hS hF hm
  go_enter Try.func72, Try.ntmps72
  go_wp2_with fail
  go_quiet ((go_at_call 33; exact Calls.quiet_of (HIX.out _)))
  go_wp2_with fail
  go_ret
  rw [HV.out]
  exact ⟨rfl, _, rfl⟩
theorem enters_min1 : Enters 72 := fun args w => by kernel_rfl
def numsL (m : Mch) : List Nat := (List.range m.s).map m.tbl.num
def RetMi (m : Mch) (w : World) (e : Ending) (w' : World) : Prop := ∃ v, e = .returned (.tuple #[.agg (minM m).cells.toArray, v]) ∧ Below w.heap.size w w' ∧ OwnI w' w.heap.size v (natsI (numsL m))

set_option maxRecDepth 100000 in
set_option maxHeartbeats 400000 in
theorem minimal_any (m : Mch) (hwf : m.Wf) (hok : m.Ok) (b : Nat) (w : World) (hm : MAt w b 0 m) :
    Calls Try.prog 50 #[.pointer (some ⟨b, 0, none⟩)] w (RetMi m w) := by
  have hmf : ∀ (fn : Fn) (first cap : Array Value) (w : World), (Instr.makeFunc fn first cap).run Try.prog w = .ok (.func fn first cap) w := fun _ _ _ _ => rfl
  obtain ⟨i0, hi0, hz0, hz1, hz2⟩ := info_parts Try.info2
  have HMX := Lib.hid (show Try.prog.follows .mixedOrders = true by kernel_rfl)
  have hs16 := hok.s_le
  have hs1 := hok.s_pos
  have hl3 := hok.l_le
  have hn1000 : m.tbl.n ≤ 1000 := by show m.s ≤ 1000; omega
  have hM0 := (Mm.start w).alloc Try.zeroCells28 28
  have hb0 : Below w.heap.size w (w.alloc (.cells Try.zeroCells28 28)) := (Below.refl _ _).alloc (Nat.le_refl _) _
  have HTA := Lib.hid (table_any b 0 m hwf hok _ (hm.keep hb0 hwf))
  have HML : Hid (∀ W, Below w.heap.size w W → W.cell? ⟨b, 0, none⟩ = some (.int .i64 m.L)) := fun W hW => (hm.keep hW hwf).l
  have HM0 := Lib.hid hM0
  clear hm hM0 hb0
  go_enter Try.func50, Try.ntmps50
  go_wp2_with fail
  refine HTA.out.mono ?_
  rintro e w1 ⟨T, rfl, hb1, hT1⟩
  have HT := Lib.hid (hT1.reads hs1).gen
  have hM1 := HM0.out.call hb1
  have HLE := Lib.hid (least_any m.tbl (Mch.tbl_wf hok hwf) hn1000 (by show m.l ≤ 100; omega) hs1 T w1 HT.out)
  have HM1 := Lib.hid hM1
  clear HTA hb1 hT1 hM1 HM0
  go_wp2_with fail
  refine HLE.out.mono ?_
  rintro e w2 ⟨vF, rfl, hb2, hO2⟩
  have HT2 := Lib.hid (HT.out.keep hb2)
  obtain ⟨aF, cF, rfl, -⟩ := id hO2.form
  have hM2 := HM1.out.callOwn hb2 (v := .slice aF (finL m.tbl).length cF) (E := 2) (n := (finL m.tbl).length) (xs := i64s (finL m.tbl)) hO2 (by simp [i64s])
  have hfl : (finL m.tbl).length = m.s := finL_len m.tbl
  have HIFW : Hid (∀ W, Below w2.heap.size w2 W → IntsAt W aF (finL m.tbl)) := fun W hW => by
    obtain ⟨a', c', e, h⟩ := hO2.form
    injection e with e1
    rw [e1]; exact h.keep hW
  have HMZ : Hid (Mm w.heap.size w w2 [(w.heap.size, Try.zeroCells28.toList, 28)] []) := HM1.out.call hb2
  have HM3 : Hid (Mm w2.heap.size w2 ((w2.alloc (.cells #[.slice aF (finL m.tbl).length cF] 31)).alloc (.cells #[.slice none 0 0] 31)) [(w2.heap.size + 1, [.slice none 0 0], 31), (w2.heap.size, [.slice aF (finL m.tbl).length cF], 31)]
      [(.slice none 0 0, 2, i64s (natsI ((List.range 0).filter fun r => m.tbl.fin r == r)))]) := by
    have h := (((Mm.start w2).alloc #[.slice aF (finL m.tbl).length cF] 31).alloc #[.slice none 0 0] 31).addNil 2
    rw [World.size_alloc] at h
    exact h
  have c5 := (HM3.out.at 1 rfl).cell' (i := 0) rfl
  clear HLE HM1 hb2 hO2 hM2
  go_wp2_with fail
  clear c5
  generalize w2.heap.size + 1 = b6 at *
  obtain ⟨b5, hb5⟩ : ∃ b5, b5 = w2.heap.size := ⟨_, rfl⟩
  rw [hfl] at HM3
  generalize (w2.alloc (.cells #[.slice aF m.s cF] 31)).alloc (.cells #[.slice none 0 0] 31) = W3 at *
  go_loopw [18] (fun kv wr => ∃ (k : Nat) (vS : Value), k ≤ m.s ∧ kv = .int .i64 (k : Int) ∧ Mm w2.heap.size w2 wr [(b6, [vS], 31), (w2.heap.size, [.slice aF m.s cF], 31)]
      [(vS, 2, i64s (natsI ((List.range k).filter fun r => m.tbl.fin r == r)))]) (fun kv _ => m.s - (intOf kv).toNat)
  case atStart => exact ⟨0, _, Nat.zero_le _, rfl, HM3.out⟩
  case round =>
    clear HM3
    obtain ⟨k, vS, hk, rfl, hM⟩ := hrel
    have ek : IntKind.i64.wrap ((k : Int) + 1) = (k : Int) + 1 := IntWalk.i64_in _ (by omega)
    have c6 := (hM.at 0 rfl).cell' (i := 0) rfl
    have hIF : IntsAt wr aF (finL m.tbl) := HIFW.out wr hM.below
    by_cases hlt : k < m.s
    · obtain ⟨gF, oF, eF, cx⟩ := hIF k (by rw [finL_len]; exact hlt)
      subst eF
      rw [finL_get m.tbl hlt] at cx
      have k1 : (0 : Int) ≤ (k : Int) := by omega
      have k2 : (k : Int) < (m.s : Int) := by omega
      have HF := Lib.hid (reps_upto_succ m.tbl k)
      have hfl2 : ((List.range k).filter fun r => m.tbl.fin r == r).length ≤ k := by
        have := List.length_filter_le (fun r => m.tbl.fin r == r) (List.range k)
        rwa [List.length_range] at this
      generalize (List.range k).filter (fun r => m.tbl.fin r == r) = S at *
      generalize m.tbl.fin k = f at *
      by_cases hf : f = k
      · subst hf
        have HF2 : Hid ((List.range (f + 1)).filter (fun r => m.tbl.fin r == r) = S ++ [f]) := by show _ = _; rw [HF.out]; simp
        have hxl : (i64s (natsI S)).length ≤ 1000000 := by simp [i64s, natsI]; omega
        have j1 : ((f : Int) == (f : Int)) = true := by simp
        clear HF hIF
        go_wp2_with (at_builtin; refine Mm.append rfl (.tmp 26) (.tmp 28) 31 rfl hM 0 rfl Try.underlying31 hi0 hz0 hz1 hz2 rfl rfl rfl rfl hxl (by omega) ?_)
        intro g6 c7 w6 hM6
        (try simp only [List.set_cons_zero] at hM6)
        have d1 := (hM6.at 0 rfl).cell' (i := 0) rfl
        have f1 := (hM6.at 0 rfl).free 0
        have hM7 := hM6.setCell 0 rfl 0 (.slice (some ⟨g6, 0, none⟩) ((i64s (natsI S)).length + 1) c7)
        (try simp only [List.set_cons_zero] at hM7)
        have HM7 : Hid (Mm w2.heap.size w2 (w6.setCell ⟨b6, 0, none⟩ (.slice (some ⟨g6, 0, none⟩) ((i64s (natsI S)).length + 1) c7)) [(b6, [.slice (some ⟨g6, 0, none⟩) ((i64s (natsI S)).length + 1) c7], 31), (w2.heap.size, [.slice (some ⟨gF, oF, none⟩) m.s cF], 31)]
            [(.slice (some ⟨g6, 0, none⟩) ((i64s (natsI S)).length + 1) c7, 2, i64s (natsI ((List.range (f + 1)).filter fun r => m.tbl.fin r == r)))]) := by
          have e : i64s (natsI (S ++ [f])) = i64s (natsI S) ++ [Value.int .i64 (f : Int)] := by simp [i64s, natsI]
          show Mm _ _ _ _ _
          rw [HF2.out, e]
          exact hM7
        clear hM hM6 hM7 c6 cx
        go_wp2_with fail
        clear d1 f1
        go_roundw
        case rel => exact ⟨f + 1, _, by omega, by go_num, HM7.out⟩
        case measure => simp [intOf] <;> omega
      · have HF2 : Hid ((List.range (k + 1)).filter (fun r => m.tbl.fin r == r) = S) := by show _ = _; rw [HF.out]; simp [hf]
        have j1 : ((k : Int) == (f : Int)) = false := by rw [beq_eq_false_iff_ne]; omega
        have HM7 : Hid (Mm w2.heap.size w2 wr [(b6, [vS], 31), (w2.heap.size, [.slice (some ⟨gF, oF, none⟩) m.s cF], 31)]
            [(vS, 2, i64s (natsI ((List.range (k + 1)).filter fun r => m.tbl.fin r == r)))]) := by
          show Mm _ _ _ _ _
          rw [HF2.out]; exact hM
        clear HF hIF hM
        go_wp2_with fail
        go_roundw
        case rel => exact ⟨k + 1, _, by omega, by go_num, HM7.out⟩
        case measure => simp [intOf] <;> omega
    · obtain rfl : k = m.s := by omega
      have k2 : ¬ ((m.s : Int) < (m.s : Int)) := by omega
      have HRP : Hid ((List.range m.s).filter (fun r => m.tbl.fin r == r) = m.tbl.reps) := rfl
      rw [HRP.out] at hM
      obtain ⟨aS, cS, eS, hIS⟩ := (OwnI.of_row (hM.own _ (mem_of_get (i := 0) rfl)) : OwnI wr w2.heap.size vS (natsI m.tbl.reps)).form
      have hrl : (natsI m.tbl.reps).length = (minM m).s := by rw [natsI_len, minM_s]; rfl
      subst eS
      have hM0 := hM.addNil 2
      have HCL : Hid (∀ W vN xs, Mm w2.heap.size w2 W [(b6, [.slice aS (natsI m.tbl.reps).length cS], 31), (w2.heap.size, [.slice aF m.s cF], 31)] [(vN, 2, xs), (.slice aS (natsI m.tbl.reps).length cS, 2, i64s (natsI m.tbl.reps))] →
          ∀ W', Below W.heap.size W W' → ∀ q, q < m.s → Calls Try.prog 72 #[.int .i64 (q : Int), .pointer (some ⟨b6, 0, none⟩), .pointer (some ⟨w2.heap.size, 0, none⟩)] W' (RetQ (.int .i64 (m.tbl.num q : Int)) W')) := fun W vN xs h W' hW' q hq => by
        have h' := h.call hW'
        obtain ⟨h1, h2⟩ := reps_idx (t := m.tbl) (q := q) hq
        obtain ⟨a1, c1, e1, hI1⟩ := (OwnI.of_row (h'.own _ (mem_of_get (i := 1) rfl)) : OwnI W' w2.heap.size (.slice aS (natsI m.tbl.reps).length cS) (natsI m.tbl.reps)).form
        injection e1 with e1
        rw [← e1] at hI1
        have hI2 := HIFW.out W' h'.below
        have h9 := (h'.at 0 rfl).cell' (i := 0) rfl
        have h8 := (h'.at 1 rfl).cell' (i := 0) rfl
        have := minimal1_any m.tbl hn1000 w2.heap.size b6 aS aF cS cF m.tbl.reps (by have := (minM_ok hok hwf).s_le; rw [← hrl, natsI_len] at this; omega) q hq h1 W' h9 (by rw [finL_len]; exact h8) hI1 hI2
        rw [h2] at this
        exact this
      have e0 : (natsI m.tbl.reps).length = m.tbl.reps.length := natsI_len _
      have h16r : m.tbl.reps.length ≤ 16 := by have := (minM_ok hok hwf).s_le; rw [← hrl, e0] at this; exact this
      have HSlt : Hid (∀ i, i < m.tbl.reps.length → m.tbl.reps[i]?.getD 0 < m.s) := fun i hi => (Tbl.rep_lt (t := m.tbl) hi).1
      have HNM : Hid (∀ q, q < m.s → m.tbl.num q ≤ 255) := fun q hq => by have := Tbl.num_lt (t := m.tbl) hq; have h2 := (minM_ok hok hwf).s_le; rw [minM_s] at h2; change m.tbl.num q < m.tbl.rk m.s at this; omega
      have HMW := Lib.hid (minM_wf hok hwf)
      have HTG : Hid (∀ W, Below w2.heap.size w2 W → TabG W T m.tbl) := fun W hW => HT2.out.keep hW
      rw [e0] at hM0 HCL
      have hM1 : Mm w2.heap.size w2 wr [(b6, [.slice aS m.tbl.reps.length cS], 31), (w2.heap.size, [.slice aF m.s cF], 31)] [(.slice none 0 0, 2, i64s (natsI ((List.range 0).map m.tbl.num))), (.slice aS m.tbl.reps.length cS, 2, i64s (natsI m.tbl.reps))] := hM0
      have HM1 := Lib.hid hM1
      have c5 := (hM1.at 1 rfl).cell' (i := 0) rfl
      clear hM hM0 hM1 hIS hIF c6 e0
      go_wp2_with fail
      clear c5
      go_loopw [10, 34] (fun vN kv wr => ∃ k : Nat, k ≤ m.s ∧ kv = .int .i64 (k : Int) ∧ Mm w2.heap.size w2 wr [(b6, [.slice aS m.tbl.reps.length cS], 31), (w2.heap.size, [.slice aF m.s cF], 31)] [(vN, 2, i64s (natsI ((List.range k).map m.tbl.num))), (.slice aS m.tbl.reps.length cS, 2, i64s (natsI m.tbl.reps))]) (fun _ kv _ => m.s - (intOf kv).toNat)
      case atStart => exact ⟨0, Nat.zero_le _, rfl, HM1.out⟩
      case round =>
        clear HM1 k2 ek hk hlt
        obtain ⟨k, hk, rfl, hM⟩ := hrel
        have ek : IntKind.i64.wrap ((k : Int) + 1) = (k : Int) + 1 := IntWalk.i64_in _ (by omega)
        by_cases hlt : k < m.s
        · have HC := Lib.hid (HCL.out wr _ _ hM wr (Below.refl _ _) k hlt)
          have k1 : (0 : Int) ≤ (k : Int) := by omega
          have k2 : (k : Int) < (m.s : Int) := by omega
          have HRS : Hid (natsI ((List.range (k + 1)).map m.tbl.num) = natsI ((List.range k).map m.tbl.num) ++ [((m.tbl.num k : Nat) : Int)]) := by
            show _ = _; simp [natsI, List.range_succ]
          have hxl : (i64s (natsI ((List.range k).map m.tbl.num))).length ≤ 1000000 := by simp [i64s, natsI]; omega
          have HM := Lib.hid hM
          generalize m.tbl.num k = y at *
          clear hM
          go_wp2_with fail
          refine HC.out.mono ?_
          rintro e w5 ⟨rfl, d, rfl⟩
          have hM5 := HM.out.drewN d
          clear HC HM
          go_wp2_with (at_builtin; refine Mm.append rfl (.tmp 37) (.tmp 41) 31 rfl hM5 0 rfl Try.underlying31 hi0 hz0 hz1 hz2 rfl rfl rfl rfl hxl (by omega) ?_)
          intro g6 c7 w6 hM6
          (try simp only [List.set_cons_zero] at hM6)
          have HM6 : Hid (Mm w2.heap.size w2 w6 [(b6, [.slice aS m.tbl.reps.length cS], 31), (w2.heap.size, [.slice aF m.s cF], 31)] [(.slice (some ⟨g6, 0, none⟩) ((i64s (natsI ((List.range k).map m.tbl.num))).length + 1) c7, 2, i64s (natsI ((List.range (k + 1)).map m.tbl.num))), (.slice aS m.tbl.reps.length cS, 2, i64s (natsI m.tbl.reps))]) := by
            show Mm _ _ _ _ _
            rw [HRS.out]
            simpa [i64s] using hM6
          clear hM5 hM6
          go_wp2_with fail
          go_roundw
          case rel => exact ⟨k + 1, by omega, by go_num, HM6.out⟩
          case measure => simp [intOf] <;> omega
        · obtain rfl : k = m.s := by omega
          have k2 : ¬ ((m.s : Int) < (m.s : Int)) := by omega
          have HNL : (List.range m.s).map m.tbl.num = numsL m := rfl
          rw [HNL] at hM
          have HGA : Hid (∀ W, Mm w2.heap.size w2 W [(b6, [.slice aS m.tbl.reps.length cS], 31), (w2.heap.size, [.slice aF m.s cF], 31)] [(u10, 2, i64s (natsI (numsL m))), (.slice aS m.tbl.reps.length cS, 2, i64s (natsI m.tbl.reps))] →
              Calls Try.prog 73 #[.pointer (some ⟨T, 0, none⟩), .int .i64 m.L, .slice aS m.tbl.reps.length cS, .func (.func 72) #[] #[.pointer (some ⟨b6, 0, none⟩), .pointer (some ⟨w2.heap.size, 0, none⟩)]] W (Ret (.agg (minM m).cells.toArray) W)) := fun W h => by
            obtain ⟨a1, c1, e1, hI1⟩ := (OwnI.of_row (h.own _ (mem_of_get (i := 1) rfl)) : OwnI W w2.heap.size (.slice aS m.tbl.reps.length cS) (natsI m.tbl.reps)).form
            injection e1 with e1
            rw [← e1] at hI1
            rw [minM_gath]
            exact gathered_any m.tbl (Mch.tbl_wf hok hwf) hn1000 hl3 T m.L hwf.lb m.tbl.reps h16r HSlt.out m.tbl.num (fun i x hi hx => HNM.out _ (hok.nn_lt hwf (HSlt.out i hi) hx)) (fun i x hi hx => by have := hok.on_lt hwf (HSlt.out i hi) hx; change m.on _ _ ≤ 255; omega) 72 enters_min1 #[.pointer (some ⟨b6, 0, none⟩), .pointer (some ⟨w2.heap.size, 0, none⟩)] aS cS W (HTG.out W h.below) hI1 (fun W' hW' i x hi hx => HCL.out W _ _ h W' hW' _ (hok.nn_lt hwf (HSlt.out i hi) hx))
          have HMB : Hid (∀ W, Below w2.heap.size w2 W → Below w.heap.size w W) := fun W hW => HMZ.out.below.trans (hW.mono HMZ.out.size)
          have HIM := Lib.hid (mach_infoT HMW.out)
          have HOM := Lib.hid (mach_ones (minM m))
          have hlenM := Mch.cells_length HMW.out
          have HLM := Lib.hid hlenM
          have HI5 : Hid ((Try.prog.info? 28).map (·.size) = some (minM m).cells.toArray.size) := HIM.out.trans (by rw [List.size_toArray])
          have HMd : Hid (Mm w2.heap.size w2 wr.drew [(b6, [.slice aS m.tbl.reps.length cS], 31), (w2.heap.size, [.slice aF m.s cF], 31)] [(u10, 2, i64s (natsI (numsL m))), (.slice aS m.tbl.reps.length cS, 2, i64s (natsI m.tbl.reps))]) := hM.drew
          clear hM HCL hlenM HNL
          go_wp2_with fail
          have HS : Hid (∀ W, Mm w2.heap.size w2 W [(b6, [.slice aS m.tbl.reps.length cS], 31), (w2.heap.size, [.slice aF m.s cF], 31)] [(u10, 2, i64s (natsI (numsL m))), (.slice aS m.tbl.reps.length cS, 2, i64s (natsI m.tbl.reps))] → W.cell? ⟨b, 0, none⟩ = some (.int .i64 m.L) ∧ W.cell? ⟨b6, 0, none⟩ = some (.slice aS m.tbl.reps.length cS)) := fun W h => ⟨HML.out W (HMB.out W h.below), (h.at 0 rfl).cell' (i := 0) rfl⟩
          refine region_A (fun W => W.cell? ⟨b, 0, none⟩ = some (.int .i64 m.L) ∧ W.cell? ⟨b6, 0, none⟩ = some (.slice aS m.tbl.reps.length cS)) [9] 11 (fun W => Mm w2.heap.size w2 W [(b6, [.slice aS m.tbl.reps.length cS], 31), (w2.heap.size, [.slice aF m.s cF], 31)] [(u10, 2, i64s (natsI (numsL m))), (.slice aS m.tbl.reps.length cS, 2, i64s (natsI m.tbl.reps))]) rfl HMX.out HMd.out (fun W h => HS.out W h) (fun W hM hU => ?_)
          clear HMd
          (refine AnyS.take (i := 0) rfl (by kernel_rfl) (by kernel_rfl) (by kernel_rfl) (by rfl) (fun _ _ _ h => h) (by rfl) (by intro w; go_simp; with_reducible rfl) hU (fun hU => ?_); (try simp only [Act.put, List.setIfInBounds_toArray, List.set_cons_zero, List.set_cons_succ]); refine AnyS.take (i := 1) rfl (by kernel_rfl) (by kernel_rfl) (by kernel_rfl) (by rfl) (fun _ _ _ h => h) (by rfl) (by intro w; go_simp; with_reducible rfl) hU (fun hU => ?_); (try simp only [Act.put, List.setIfInBounds_toArray, List.set_cons_zero, List.set_cons_succ]); refine AnyS.take (i := 2) rfl (by kernel_rfl) (by kernel_rfl) (by kernel_rfl) (by rfl) (fun _ _ _ h => h) (by rfl) (by intro w; go_simp; with_reducible rfl) hU (fun hU => ?_); (try simp only [Act.put, List.setIfInBounds_toArray, List.set_cons_zero, List.set_cons_succ]); refine AnyS.take (i := 3) rfl (by kernel_rfl) (by kernel_rfl) (by kernel_rfl) (by rfl) (fun _ _ _ h => h) (by rfl) (by intro w; go_simp; with_reducible rfl) hU (fun hU => ?_); (try simp only [Act.put, List.setIfInBounds_toArray, List.set_cons_zero, List.set_cons_succ]))
          (refine AnyS.takeS (i := 4) rfl (by kernel_rfl) (by kernel_rfl) (by kernel_rfl) (by rfl) (by kernel_rfl) (by kernel_rfl) (fun _ _ _ h => h) (by rfl) (by intro W hSw; have h1 := hSw.1; clear hSw; go_simp; with_reducible rfl) hU (fun hU => ?_); (try simp only [Act.put, List.setIfInBounds_toArray, List.set_cons_zero, List.set_cons_succ]))
          (refine AnyS.takeS (i := 5) rfl (by kernel_rfl) (by kernel_rfl) (by kernel_rfl) (by rfl) (by kernel_rfl) (by kernel_rfl) (fun _ _ _ h => h) (by rfl) (by intro W hSw; have h1 := hSw.2; clear hSw; go_simp; with_reducible rfl) hU (fun hU => ?_); (try simp only [Act.put, List.setIfInBounds_toArray, List.set_cons_zero, List.set_cons_succ]))
          (refine AnyS.take (i := 6) rfl (by kernel_rfl) (by kernel_rfl) (by kernel_rfl) (by rfl) (fun _ _ _ h => h) (by rfl) (by intro w; go_simp; with_reducible rfl) hU (fun hU => ?_); (try simp only [Act.put, List.setIfInBounds_toArray, List.set_cons_zero, List.set_cons_succ]); refine AnyS.take (i := 8) rfl (by kernel_rfl) (by kernel_rfl) (by kernel_rfl) (by rfl) (fun _ _ _ h => h) (by rfl) (by intro w; go_simp; with_reducible rfl) hU (fun hU => ?_); (try simp only [Act.put, List.setIfInBounds_toArray, List.set_cons_zero, List.set_cons_succ]))
          have hga := HGA.out W hM
          (refine AnyS.branch (rs := [7]) (by kernel_rfl) (List.cons_ne_nil _ _) ?_; refine AllS.cons rfl ?_ AllS.nil; intro K hK)
          go_simp
          refine hga.mono ?_
          rintro e Wa ⟨rfl, hba⟩
          have hMa := hM.call hba
          refine hK.out _ _ (.inl (HS.out _ hMa)) (fun hU => ?_)
          clear hK K hM hba hga
          (try simp only [Act.put, List.setIfInBounds_toArray, List.set_cons_zero, List.set_cons_succ])
          have hZ := HMZ.out.call hMa.below
          have ht := (hZ.at 0 rfl).there 0 (minM m).cells.length (by simp only; rw [zero_len, HLM.out]; omega)
          have hZ2 := hZ.setAll 0 rfl (vs := (minM m).cells) (by rw [zero_len, HLM.out])
          have HO : Hid (OwnI (Wa.setCells w.heap.size 0 (minM m).cells) w.heap.size u10 (natsI (numsL m))) := by
            have h := (OwnI.of_row (hMa.own _ (mem_of_get (i := 0) rfl)) : OwnI Wa w2.heap.size u10 (natsI (numsL m)))
            have hlt : w.heap.size < w2.heap.size := (HMZ.out.at 0 rfl).lt
            exact (h.outerK hlt 0 (minM m).cells).less (Nat.le_of_lt hlt)
          have hmL := (HS.out _ hMa)
          (refine AnyS.branch (rs := [9]) (by kernel_rfl) (List.cons_ne_nil _ _) ?_; refine AllS.cons rfl ?_ AllS.nil; intro K hK)
          refine st_rowK (by rfl) 28 (.tmp 2) (.tmp 51) rfl w.heap.size 0 (minM m).cells rfl rfl ht HIM.out HOM.out ?_
          refine hK.out _ _ (.inr ⟨9, by simp, by rfl⟩) (fun hU => ?_)
          clear hK K ht hMa hZ hmL
          (try simp only [Act.put, List.setIfInBounds_toArray, List.set_cons_zero, List.set_cons_succ])
          (refine AnyS.take (i := 10) rfl (by kernel_rfl) (by kernel_rfl) (by kernel_rfl) (by rfl) (fun _ _ _ h => h) (by rfl) (by intro w; go_simp; with_reducible rfl) hU (fun hU => ?_); (try simp only [Act.put, List.setIfInBounds_toArray, List.set_cons_zero, List.set_cons_succ]))
          refine AnyS.done (by kernel_rfl) ?_ _
          clear hU
          have HB := Lib.hid (hZ2.at 0 rfl)
          have hbl := hZ2.below
          clear hZ2
          go_wp2_with fail
          refine bodyPost_ret (v := .tuple #[.agg (minM m).cells.toArray, u10]) (results_ct Try.results50 _ _ w.heap.size 28 (minM m).cells.toArray (0, 0) (.struct _) rfl HB.out Try.underlying28 rfl HI5.out) rfl ?_
          exact ⟨_, rfl, hbl, HO.out⟩
end Go.Proofs.Ythgkkaifdlkciaa

/- (*Machine).kindOf of the program. -/
namespace Go.Proofs.Ythgkkaifdlkciaa
open Go.RowKit
set_option linter.unusedVariables false
set_option linter.unusedSimpArgs false

def RetKo (m : Mch) (q : Nat) (w : World) (e : Ending) (w' : World) : Prop := ∃ v, e = .returned v ∧ Below w.heap.size w w' ∧ OwnI w' w.heap.size v [(kndI m q).1, (kndI m q).2]
theorem belowD {B D : Nat} {w w' : World} (hg : w.grownBy w' (some D)) (hD : B ≤ D) (hB : B ≤ w.heap.size) : Below B w w' :=
  ⟨hg.os, hg.tape, hg.output, hg.size, fun k hk => hg.block k (by omega) (fun e => by injection e; omega)⟩
theorem numsL_get {m : Mch} {q : Nat} (hq : q < m.s) : (natsI (numsL m))[q]?.getD 0 = ((m.tbl.num q : Nat) : Int) := by simp [natsI, numsL, hq]

set_option maxRecDepth 100000 in
set_option maxHeartbeats 400000 in
theorem kindOf_any (m : Mch) (hwf : m.Wf) (hok : m.Ok) (q : Nat) (hq : q < m.s) (b : Nat) (w : World) (hm : MAt w b 0 m) :
    Calls Try.prog 29 #[.pointer (some ⟨b, 0, none⟩), .int .i64 (q : Int)] w (RetKo m q w) := by
  have HMX := Lib.hid (show Try.prog.follows .mixedOrders = true by kernel_rfl)
  have hs16 := hok.s_le
  have HMI := Lib.hid (minimal_any m hwf hok b w hm)
  have HMW := Lib.hid (minM_wf hok hwf)
  have HMO := Lib.hid (minM_ok hok hwf)
  have HMT := Lib.hid (minM_tv hok hwf)
  have hnq : m.tbl.num q < (minM m).s := by rw [minM_s]; exact Tbl.num_lt (t := m.tbl) hq
  have HNQ := Lib.hid hnq
  have HIM := Lib.hid (mach_infoT HMW.out)
  have HOM := Lib.hid (mach_ones (minM m))
  have q1 : (0 : Int) ≤ (q : Int) := by omega
  have q2 : (q : Int) < (m.s : Int) := by omega
  clear hm hnq
  go_enter Try.func29, Try.ntmps29
  go_wp2_with fail
  refine HMI.out.mono ?_
  rintro e w1 ⟨v, rfl, hb1, hO⟩
  obtain ⟨aN, cN, rfl, hI⟩ := id hO.form
  have hnl : (natsI (numsL m)).length = m.s := by simp [natsI, numsL]
  obtain ⟨gN, oN, rfl, hc⟩ := hI q (by rw [hnl]; exact hq)
  rw [numsL_get hq] at hc
  rw [hnl]
  have HC := Lib.hid hc
  have hM0 := (Mm.start w1).alloc Try.zeroCells28 28
  have ht := (hM0.at 0 rfl).there 0 (minM m).cells.length (by simp only; rw [zero_len, Mch.cells_length HMW.out]; omega)
  have hM1 := hM0.setAll 0 rfl (vs := (minM m).cells) (by rw [zero_len, Mch.cells_length HMW.out])
  simp only [List.set_cons_zero] at hM1
  have HB1 := Lib.hid hb1
  have HMD := Lib.hid hM1.drew
  clear HMI hO hI hc hM0 hM1 hnl hb1
  go_wp2_with ((with_reducible refine st_row ?_ 28 (.tmp 5) (.tmp 10) ?_ w1.heap.size 0 (minM m).cells ?_ ?_ ht HIM.out HOM.out ?_); exact rfl; exact rfl; exact rfl; exact rfl)
  clear ht
  have HWB : Hid (∀ W, Below w1.heap.size w1 W → Below w.heap.size w W) := fun W hW => HB1.out.trans (hW.mono HB1.out.size)
  have HS : Hid (∀ W, Below w1.heap.size w1 W → W.cell? ⟨gN, oN + q, none⟩ = some (.int .i64 ((m.tbl.num q : Nat) : Int))) := fun W hW => (hW.cell (World.block_lt_of_cell? _ _ HC.out)).trans HC.out
  refine region_A (fun W => W.cell? ⟨gN, oN + q, none⟩ = some (.int .i64 ((m.tbl.num q : Nat) : Int))) [] 7 (fun W => Mm w1.heap.size w1 W [(w1.heap.size, (minM m).cells, 28)] []) rfl HMX.out HMD.out (fun W h => HS.out W h.below) (fun W hM hU => ?_)
  clear HMD
  (refine AnyS.take (i := 1) rfl (by kernel_rfl) (by kernel_rfl) (by kernel_rfl) (by rfl) (fun _ _ _ h => h) (by rfl) (by intro w; go_simp; with_reducible rfl) hU (fun hU => ?_); (try simp only [Act.put, List.setIfInBounds_toArray, List.set_cons_zero, List.set_cons_succ]); refine AnyS.take (i := 2) rfl (by kernel_rfl) (by kernel_rfl) (by kernel_rfl) (by rfl) (fun _ _ _ h => h) (by rfl) (by intro w; go_simp; with_reducible rfl) hU (fun hU => ?_); (try simp only [Act.put, List.setIfInBounds_toArray, List.set_cons_zero, List.set_cons_succ]); refine AnyS.take (i := 3) rfl (by kernel_rfl) (by kernel_rfl) (by kernel_rfl) (by rfl) (fun _ _ _ h => h) (by rfl) (by intro w; go_simp; with_reducible rfl) hU (fun hU => ?_); (try simp only [Act.put, List.setIfInBounds_toArray, List.set_cons_zero, List.set_cons_succ]))
  (refine AnyS.takeS (i := 4) rfl (by kernel_rfl) (by kernel_rfl) (by kernel_rfl) (by rfl) (by kernel_rfl) (by kernel_rfl) (fun _ _ _ h => h) (by rfl) (by intro W hSw; go_simp; with_reducible rfl) hU (fun hU => ?_); (try simp only [Act.put, List.setIfInBounds_toArray, List.set_cons_zero, List.set_cons_succ]))
  have hnk := newKinds_any (minM m) HMW.out HMO.out w1.heap.size W (hM.mach 0 rfl)
  (refine AnyS.branch (rs := [0]) (by kernel_rfl) (List.cons_ne_nil _ _) ?_; refine AllS.cons rfl ?_ AllS.nil; intro K hK)
  go_simp
  refine hnk.mono ?_
  rintro e Wa ⟨K', D, c, rfl, hba, hKD, hD⟩
  have hMa := hM.call hba
  have hsz := hM.size
  refine hK.out _ _ (.inl (HS.out _ hMa.below)) (fun hU => ?_)
  clear hK K hM hba hnk
  (try simp only [Act.put, List.setIfInBounds_toArray, List.set_cons_zero, List.set_cons_succ])
  have hkd := kindM_any (minM m) HMW.out HMO.out HMT.out K' D c (m.tbl.num q) HNQ.out Wa hKD
  (refine AnyS.branch (rs := [5]) (by kernel_rfl) (List.cons_ne_nil _ _) ?_; refine AllS.cons rfl ?_ AllS.nil; intro K hK)
  go_simp
  refine hkd.mono ?_
  rintro e Wb ⟨v, rfl, hg, hO⟩
  have hbb : Below w1.heap.size Wa Wb := belowD hg (Nat.le_trans hsz hD) hMa.size
  have hbl := hMa.below.trans hbb
  refine hK.out _ _ (.inl (HS.out _ hbl)) (fun hU => ?_)
  clear hK K hkd hKD
  (try simp only [Act.put, List.setIfInBounds_toArray, List.set_cons_zero, List.set_cons_succ])
  (refine AnyS.take (i := 6) rfl (by kernel_rfl) (by kernel_rfl) (by kernel_rfl) (by rfl) (fun _ _ _ h => h) (by rfl) (by intro w; go_simp; with_reducible rfl) hU (fun hU => ?_); (try simp only [Act.put, List.setIfInBounds_toArray, List.set_cons_zero, List.set_cons_succ]))
  refine AnyS.done (by kernel_rfl) ?_ _
  clear hU
  have HO := Lib.hid (hO.less (C := w.heap.size) (Nat.le_trans HB1.out.size hMa.size))
  have HBL := Lib.hid (HWB.out _ hbl)
  clear hO hbl hbb hg hMa
  go_wp2_with fail
  go_ret
  exact ⟨_, rfl, HBL.out, HO.out⟩
end Go.Proofs.Ythgkkaifdlkciaa

/- KindOfState, IsBoundedMachine, DepthOfState of the program. -/
namespace Go.Proofs.Ythgkkaifdlkciaa
open Go.RowKit
set_option linter.unusedVariables false
set_option linter.unusedSimpArgs false

set_option maxRecDepth 100000 in
set_option maxHeartbeats 1000000 in
theorem implKindOfState_any (m : Mch) (hwf : m.Wf) (q : Int) (w : World) :
    Calls Try.prog 12 #[.agg m.cells.toArray, .int .i64 q] w (RetI (kosL m q) (codeP m q ⟨#[]⟩) w) := by
  have hm := MAt.boxed w m 28
  have hb0 := boxedBelow w m.cells.toArray 28
  have hI : IntsAt ((w.alloc (.cells m.cells.toArray 28)).alloc (.cells #[.int .i64 q] 2)) (some ⟨w.heap.size + 1, 0, none⟩) [q] := fun i hi => by
    have : i = 0 := by simpa using hi
    subst this
    have := (Blk.new (w.alloc (.cells m.cells.toArray 28)) #[.int .i64 q] 2).cell' (i := 0) rfl
    rw [show (w.alloc (.cells m.cells.toArray 28)).heap.size = w.heap.size + 1 by simp] at this
    exact ⟨_, 0, rfl, this⟩
  have hm0 := hm.alloc (by simp) (.cells #[.int .i64 q] 2)
  have hb00 := hb0.alloc (by simp) (.cells #[.int .i64 q] 2)
  have HIQ := Lib.hid hI
  clear hI
  go_enter Try.func12, Try.ntmps12
  go_wp2_with ((with_reducible refine ld_mach ?_ (.tmp 2) ?_ (w.heap.size) (0) ?_ m hm hwf ?_); exact rfl; exact rfl; exact rfl)
  refine (codeOf_any m hwf _ [q] 1 (by simp) _ short_nil _ HIQ.out).mono ?_
  rintro e w1 ⟨rfl, hb1⟩
  rw [codesP_one]
  have hm1 := hm0.keep hb1 hwf
  have hbb1 := hb00.trans (hb1.mono hb00.size)
  by_cases c0 : codeP m q ⟨#[]⟩ = 0
  · obtain ⟨hok, -, -, k, rfl, hk⟩ := code_zero c0
    have HL := Lib.hid (show kosL m k = [(kndI m k).1, (kndI m k).2] by rw [kosL, if_pos c0]; simp)
    have HC := Lib.hid c0
    rw [c0]
    clear c0
    go_wp2_with fail
    refine (kindOf_any m hwf hok k hk w.heap.size w1 hm1).mono ?_
    rintro e w2 ⟨v, rfl, hb2, hO⟩
    have HB := Lib.hid (hbb1.trans (hb2.mono hbb1.size))
    have HO := Lib.hid (hO.less (C := w.heap.size) hbb1.size)
    clear hO
    go_wp2_with fail
    go_ret2
    rw [HL.out, HC.out]
    exact ⟨_, rfl, HB.out, HO.out⟩
  · have HL := Lib.hid (show kosL m q = [] by rw [kosL, if_neg c0])
    have c1 : (codeP m q ⟨#[]⟩ != 0) = true := by simpa using c0
    clear c0
    generalize hc : codeP m q ⟨#[]⟩ = c at *
    clear hc
    go_wp2_with fail
    go_ret2
    rw [HL.out]
    exact ⟨_, rfl, hbb1, OwnI.nil _ _⟩

theorem idx0 {m : Mch} (hok : m.Ok) (hwf : m.Wf) {q : Nat} (hq : q < m.s) (h : (kndI m q).1 = 0) : idxI (acts m q 17) 0 = (fzN m q : Int) := by
  obtain ⟨h1, h2, h3⟩ := fz_spec hok hwf hq h
  have hl := acts_len m q 17
  have hg : ∀ k (hk : k < 17), (acts m q 17)[k]'(by rw [hl]; exact hk) = (sumR m (nowS m allB q k) m.s : Int) := fun k hk => by
    have := acts_get (m := m) (q := q) hk
    rwa [List.getElem?_eq_getElem (by rw [hl]; exact hk)] at this
  have hz : (acts m q 17)[fzN m q]'(by rw [hl]; omega) = 0 := by rw [hg _ (by omega), h2]; rfl
  have hm : (0 : Int) ∈ acts m q 17 := by rw [← hz]; exact List.getElem_mem _
  have hi := List.idxOf_lt_length_iff.2 hm
  have hv : (acts m q 17)[(acts m q 17).idxOf 0] = 0 := List.getElem_idxOf hi
  have hlt : (acts m q 17).idxOf 0 < 17 := by rw [← hl]; exact hi
  unfold idxI
  rw [if_pos hm]
  have e : (acts m q 17).idxOf 0 = fzN m q := by
    rcases Nat.lt_trichotomy ((acts m q 17).idxOf 0) (fzN m q) with hc | hc | hc
    · rw [hg _ hlt] at hv
      exact absurd (by omega) (h3 _ hc)
    · exact hc
    · have := List.not_of_lt_findIdx (p := (· == (0 : Int))) (xs := acts m q 17) hc
      rw [hz] at this
      simp at this
  rw [e]

set_option maxRecDepth 100000 in
set_option maxHeartbeats 1000000 in
theorem implDepthOfState_any (m : Mch) (hwf : m.Wf) (q : Int) (w : World) :
    Calls Try.prog 17 #[.agg m.cells.toArray, .int .i64 q] w (Ret2 (.int .i64 (dosI m q).1) (.int .i64 (dosI m q).2) w) := by
  have hm := MAt.boxed w m 28
  have hb0 := boxedBelow w m.cells.toArray 28
  have hI : IntsAt ((w.alloc (.cells m.cells.toArray 28)).alloc (.cells #[.int .i64 q] 2)) (some ⟨w.heap.size + 1, 0, none⟩) [q] := fun i hi => by
    have : i = 0 := by simpa using hi
    subst this
    have := (Blk.new (w.alloc (.cells m.cells.toArray 28)) #[.int .i64 q] 2).cell' (i := 0) rfl
    rw [show (w.alloc (.cells m.cells.toArray 28)).heap.size = w.heap.size + 1 by simp] at this
    exact ⟨_, 0, rfl, this⟩
  have hm0 := hm.alloc (by simp) (.cells #[.int .i64 q] 2)
  have hb00 := hb0.alloc (by simp) (.cells #[.int .i64 q] 2)
  have HIQ := Lib.hid hI
  clear hI
  go_enter Try.func17, Try.ntmps17
  go_wp2_with ((with_reducible refine ld_mach ?_ (.tmp 2) ?_ (w.heap.size) (0) ?_ m hm hwf ?_); exact rfl; exact rfl; exact rfl)
  refine (codeOf_any m hwf _ [q] 1 (by simp) _ short_nil _ HIQ.out).mono ?_
  rintro e w1 ⟨rfl, hb1⟩
  rw [codesP_one]
  have hm1 := hm0.keep hb1 hwf
  have hbb1 := hb00.trans (hb1.mono hb00.size)
  by_cases c0 : codeP m q ⟨#[]⟩ = 0
  · obtain ⟨hok, -, -, k, rfl, hk⟩ := code_zero c0
    have HD := Lib.hid (show dosI m k = if (kndI m k).1 ≠ 0 then (0, 5) else ((fzN m k : Int), 0) by rw [dosI, if_neg (by simpa using c0)]; simp)
    have HMA := Lib.hid hm1
    rw [c0]
    clear c0
    go_wp2_with fail
    refine (kindOf_any m hwf hok k hk w.heap.size w1 hm1).mono ?_
    rintro e w2 ⟨v, rfl, hb2, hO⟩
    have hbb2 := hbb1.trans (hb2.mono hbb1.size)
    have hm2 := HMA.out.keep hb2 hwf
    obtain ⟨aK, cK, rfl, hK⟩ := id hO.form
    obtain ⟨gK, oK, rfl, hcK⟩ := hK 0 (by simp)
    have hcK : w2.cell? ⟨gK, oK, none⟩ = some (.int .i64 (kndI m k).1) := hcK
    clear hO hK hm1
    by_cases c1 : (kndI m k).1 = 0
    · have HX := Lib.hid (idx0 hok hwf hk c1)
      have HD2 : Hid (dosI m k = ((fzN m k : Int), 0)) := by show _ = _; rw [HD.out, if_neg (by simpa using c1)]
      rw [c1] at hcK
      clear c1
      go_wp2_with fail
      refine (activity_any w.heap.size 0 m hwf hok k hk 16 (by omega) w2 hm2).mono ?_
      rintro e w3 ⟨v, rfl, hb3, hO3⟩
      obtain ⟨aA, cA, rfl, hA⟩ := id hO3.form
      have HB := Lib.hid (hbb2.trans (hb3.mono hbb2.size))
      have HSI := Lib.hid (slIndexI_any aA cA (acts m k 17) 0 (by rw [acts_len]; omega) w3 hA)
      have HAL := Lib.hid (acts_len m k 17)
      clear hO3 hA hcK
      go_wp2_with fail
      refine HSI.out.mono ?_
      rintro e w4 ⟨rfl, d, rfl⟩
      go_wp2_with fail
      go_ret2
      rw [HD2.out, HX.out]
      exact ⟨rfl, HB.out.trans (dN_below w3 d |>.mono HB.out.size)⟩
    · have HD2 : Hid (dosI m k = (0, 5)) := by show _ = _; rw [HD.out, if_pos c1]
      have c2 : ((kndI m k).1 != 0) = true := by simpa using c1
      generalize (kndI m k).1 = z at *
      clear c1
      go_wp2_with fail
      go_ret2
      rw [HD2.out]
      exact ⟨rfl, hbb2⟩
  · have HL := Lib.hid (show dosI m q = (0, codeP m q ⟨#[]⟩) by rw [dosI, if_pos c0])
    have c1 : (codeP m q ⟨#[]⟩ != 0) = true := by simpa using c0
    clear c0
    generalize hc : codeP m q ⟨#[]⟩ = c at *
    clear hc
    go_wp2_with fail
    go_ret2
    rw [HL.out]
    exact ⟨rfl, hbb1⟩
theorem ib_bad {m : Mch} {q : Nat} (hm : machP m = true) (hq : q < m.s) (h : unbB m q = true) : ibI m = (false, 0) := by
  unfold ibI
  rw [if_neg (by simp [hm])]
  congr 1
  rw [List.all_eq_false]
  exact ⟨q, List.mem_range.2 hq, by simp [h]⟩
theorem ib_good {m : Mch} (hm : machP m = true) (h : ∀ q, q < m.s → unbB m q = false) : ibI m = (true, 0) := by
  unfold ibI
  rw [if_neg (by simp [hm])]
  congr 1
  rw [List.all_eq_true]
  intro q hq
  simp [h q (List.mem_range.1 hq)]

set_option maxRecDepth 100000 in
set_option maxHeartbeats 1000000 in
theorem implIsBoundedMachine_any (m : Mch) (hwf : m.Wf) (w : World) :
    Calls Try.prog 10 #[.agg m.cells.toArray] w (Ret2 (.bool (ibI m).1) (.int .i64 (ibI m).2) w) := by
  have hm := MAt.boxed w m 28
  have hb0 := boxedBelow w m.cells.toArray 28
  go_enter Try.func10, Try.ntmps10
  go_wp2_with ((with_reducible refine ld_mach ?_ (.tmp 1) ?_ (w.heap.size) (0) ?_ m hm hwf ?_); exact rfl; exact rfl; exact rfl)
  refine (IsMachine_any m hwf _).mono ?_
  rintro e w1 ⟨rfl, hb1⟩
  have hm1 := hm.keep hb1 hwf
  have hbb1 := hb0.trans (hb1.mono hb0.size)
  by_cases c1 : machP m = true
  · have hok := mach_ok c1
    have hs16 := hok.s_le
    have HBD := Lib.hid (fun q h1 h2 => ib_bad (m := m) (q := q) c1 h1 h2)
    have HGD := Lib.hid (fun h => ib_good (m := m) c1 h)
    have HKO : Hid (∀ W k, k < m.s → Below w1.heap.size w1 W → Calls Try.prog 29 #[.pointer (some ⟨w.heap.size, 0, none⟩), .int .i64 (k : Int)] W (RetKo m k W)) := fun W k hk hW => kindOf_any m hwf hok k hk w.heap.size W (hm1.keep hW hwf)
    have hs1 := hm1.s
    have HBW : Hid (∀ W, Below w1.heap.size w1 W → Below w.heap.size w W) := fun W hW => hbb1.trans (hW.mono hbb1.size)
    rw [hok.S_eq] at hs1
    rw [c1]
    clear c1 hm hm1 hb0 hb1 hbb1
    go_wp2_with fail
    clear hs1
    go_loopw [11] (fun iv wr => ∃ k : Nat, k ≤ m.s ∧ iv = .int .i64 (k : Int) ∧ Hid (∀ j, j < k → unbB m j = false) ∧ Below w1.heap.size w1 wr) (fun iv _ => m.s - (intOf iv).toNat)
    case atStart => exact ⟨0, Nat.zero_le _, rfl, fun j hj => by omega, Below.refl _ _⟩
    case round =>
      obtain ⟨k, hk, rfl, HN, hb⟩ := hrel
      have ek : IntKind.i64.wrap ((k : Int) + 1) = (k : Int) + 1 := IntWalk.i64_in _ (by omega)
      by_cases hlt : k < m.s
      · have k1 : (0 : Int) ≤ (k : Int) := by omega
        have k2 : (k : Int) < (m.s : Int) := by omega
        have HKK := Lib.hid (HKO.out wr k hlt hb)
        have HU : Hid (unbB m k = (decide ((kndI m k).1 = 2) || decide (0 < (kndI m k).2))) := rfl
        have HBK := Lib.hid (HBD.out k hlt)
        go_wp2_with fail
        refine HKK.out.mono ?_
        rintro e w2 ⟨v, rfl, hb2, hO⟩
        have HB2 := Lib.hid (hb.trans (hb2.mono hb.size))
        obtain ⟨aK, cK, rfl, hK⟩ := id hO.form
        obtain ⟨gK, oK, rfl, hcK⟩ := hK 0 (by simp)
        have hcK : w2.cell? ⟨gK, oK, none⟩ = some (.int .i64 (kndI m k).1) := hcK
        obtain ⟨gK2, oK2, e2, hcK2⟩ := hK 1 (by simp)
        injection e2 with e2; injection e2 with e2 e3
        subst e2 e3
        have hcK2 : w2.cell? ⟨gK, oK + 1, none⟩ = some (.int .i64 (kndI m k).2) := hcK2
        clear hO hK HKK hb2
        generalize (kndI m k).1 = z at *
        generalize (kndI m k).2 = y at *
        by_cases c2 : z = 2
        · subst c2
          have HR : Hid (ibI m = (false, 0)) := HBK.out (by rw [HU.out]; simp)
          clear HU HBK
          go_wp2_with fail
          go_ret2
          rw [HR.out]
          exact ⟨rfl, HBW.out _ HB2.out⟩
        · have j1 : (z == 2) = false := by simpa using c2
          by_cases c3 : 0 < y
          · have HR : Hid (ibI m = (false, 0)) := HBK.out (by rw [HU.out]; simp [c3])
            clear HU HBK c2
            go_wp2_with fail
            go_ret2
            rw [HR.out]
            exact ⟨rfl, HBW.out _ HB2.out⟩
          · have HN2 : Hid (∀ j, j < k + 1 → unbB m j = false) := fun j hj => by
              by_cases e : j = k
              · rw [e, HU.out]; simp [c2, c3]
              · exact HN.out j (by omega)
            clear HU HBK c2
            go_wp2_with fail
            go_roundw
            case rel => exact ⟨k + 1, by omega, by go_num, HN2, HB2.out⟩
            case measure => simp [intOf] <;> omega
      · obtain rfl : k = m.s := by omega
        have k2 : ¬ ((m.s : Int) < (m.s : Int)) := by omega
        have HR := Lib.hid (HGD.out HN.out)
        go_wp2_with fail
        go_ret2
        rw [HR.out]
        exact ⟨rfl, HBW.out _ hb⟩
  · have c1' : machP m = false := by simpa using c1
    have HR : Hid (ibI m = (false, 1)) := by show _ = _; rw [ibI, if_pos c1']
    rw [c1']
    clear c1
    go_wp2_with fail
    go_ret2
    rw [HR.out]
    exact ⟨rfl, hbb1⟩
end Go.Proofs.Ythgkkaifdlkciaa

/- The reference's double: more than one way back. -/
namespace Go.Proofs.Ythgkkaifdlkciaa
open Go.RowKit
set_option linter.unusedVariables false
set_option linter.unusedSimpArgs false

/-- sixteen rows of sixteen bools -/
def b2L (f : Nat → Nat → Bool) : List Value := (List.range 256).map fun i => .bool (f (i / 16) (i % 16))
theorem b2L_len (f : Nat → Nat → Bool) : (b2L f).length = 256 := by simp [b2L]
theorem b2L_get (f : Nat → Nat → Bool) {p r : Nat} (hp : p < 16) (hr : r < 16) : (b2L f)[p * 16 + r]? = some (.bool (f p r)) := by
  have h1 : p * 16 + r < 256 := by omega
  have h2 : (p * 16 + r) / 16 = p := by omega
  have h3 : (p * 16 + r) % 16 = r := by omega
  simp [b2L, h1, h2, h3]
theorem b2L_one (f : Nat → Nat → Bool) : ∀ v ∈ b2L f, v.oneCell' = true := fun v hv => by simp only [b2L, List.mem_map] at hv; obtain ⟨z, _, rfl⟩ := hv; rfl
/-- the first x letters that lead back -/
noncomputable def cntU (M : Mch) (q x : Nat) : Nat := ((List.range x).filter fun x => !trivB M (M.tbl.nx q x) && (decide (M.tbl.nx q x = q) || M.tbl.nb (trivB M) (M.tbl.nx q x) q)).length
theorem cntU_end (M : Mch) (q : Nat) : cntU M q M.l = M.tbl.cntR (trivB M) q := rfl
theorem cntU_succ (M : Mch) (q x : Nat) : cntU M q (x + 1) = cntU M q x + if (!trivB M (M.tbl.nx q x) && (decide (M.tbl.nx q x = q) || M.tbl.nb (trivB M) (M.tbl.nx q x) q)) = true then 1 else 0 := by
  unfold cntU
  rw [filter_range_succ, List.length_append]
  congr 1
  split <;> simp
theorem cntU_le (M : Mch) (q x : Nat) : cntU M q x ≤ x := by
  unfold cntU
  have := List.length_filter_le (fun x => !trivB M (M.tbl.nx q x) && (decide (M.tbl.nx q x = q) || M.tbl.nb (trivB M) (M.tbl.nx q x) q)) (List.range x)
  rwa [List.length_range] at this

set_option maxRecDepth 100000 in
set_option maxHeartbeats 1000000 in
theorem l09Double_any (M : Mch) (hwf : M.Wf) (hok : M.Ok) (f : Nat → Nat → Bool) (hf : ∀ p r, p < M.s → r < M.s → f p r = M.tbl.nb (trivB M) p r) (q : Nat) (hq : q < M.s) (w : World) :
    Calls Try.prog 44 #[.agg M.cells.toArray, .agg (bls (trivB M)).toArray, .agg (b2L f).toArray, .int .i64 (q : Int)] w (Ret (.bool (decide (1 < M.tbl.cntR (trivB M) q))) w) := by
  have hs16 := hok.s_le
  have hl3 := hok.l_le
  have HF := Lib.hid hf
  have HCE := Lib.hid (cntU_end M q)
  have hM := ((Mm.start w).alloc M.cells.toArray 28).alloc (bls (trivB M)).toArray 61
  have hM := hM.alloc (b2L f).toArray 64
  have HM := Lib.hid hM
  clear hf hM
  go_enter Try.func44, Try.ntmps44
  go_wp2_with fail
  go_loopw [9, 10] (fun cv xv wr => ∃ x : Nat, x ≤ M.l ∧ xv = .int .i64 (x : Int) ∧ cv = .int .i64 (cntU M q x : Int) ∧ Mm w.heap.size w wr [(w.heap.size + 1 + 1, b2L f, 64), (w.heap.size + 1, bls (trivB M), 61), (w.heap.size, M.cells, 28)] []) (fun _ xv _ => M.l - (intOf xv).toNat)
  case atStart => exact ⟨0, Nat.zero_le _, rfl, rfl, by simpa using HM.out⟩
  case round =>
    clear HM
    obtain ⟨x, hx, rfl, rfl, hM⟩ := hrel
    have cl := (hM.mach 2 rfl).l
    rw [hok.L_eq] at cl
    have ex : IntKind.i64.wrap ((x : Int) + 1) = (x : Int) + 1 := IntWalk.i64_in _ (by omega)
    have hcb := cntU_le M q x
    by_cases hlt : x < M.l
    · have cn := (hM.mach 2 rfl).nn hwf (q := q) (x := x) (by omega) (by omega)
      rw [hok.n_eq hwf hq hlt] at cn
      have hn := hok.nn_lt hwf hq hlt
      have ct := (hM.at 1 rfl).cell' (bls_get (trivB M) (q := M.nn q x) (by omega))
      have cf := (hM.at 0 rfl).cell' (b2L_get f (p := M.nn q x) (r := q) (by omega) (by omega))
      rw [HF.out _ _ hn hq] at cf
      have HS : Hid (cntU M q (x + 1) = cntU M q x + if (!trivB M (M.nn q x) && (decide (M.nn q x = q) || M.tbl.nb (trivB M) (M.nn q x) q)) = true then 1 else 0) := cntU_succ M q x
      have i1 : (0 : Int) ≤ (x : Int) := by omega
      have i2 : (x : Int) < 3 := by omega
      have i3 : (x : Int) < (M.l : Int) := by omega
      have i4 : (0 : Int) ≤ (q : Int) := by omega
      have i5 : (q : Int) < 16 := by omega
      have i6 : (0 : Int) ≤ (M.nn q x : Int) := by omega
      have i7 : (M.nn q x : Int) < 16 := by omega
      have ew : IntKind.i64.wrap (M.nn q x : Int) = (M.nn q x : Int) := IntWalk.i64_in _ (by omega)
      have ec : IntKind.i64.wrap ((cntU M q x : Int) + 1) = (cntU M q x : Int) + 1 := IntWalk.i64_in _ (by omega)
      have HM := Lib.hid hM
      clear hM
      generalize M.nn q x = y at *
      generalize cntU M q x = c1 at *
      generalize M.tbl.nb (trivB M) y q = bn at *
      generalize trivB M y = bt at *
      by_cases hy : y = q
      · have j1 : ((y : Int) == (q : Int)) = true := by rw [hy]; simp
        have HY := Lib.hid hy
        clear hy
        cases bt with
        | true =>
          go_wp2_with fail
          go_roundw
          case rel => exact ⟨x + 1, by omega, by go_num, by rw [HS.out]; rfl, HM.out⟩
          case measure => simp [intOf] <;> omega
        | false =>
          go_wp2_with fail
          go_roundw
          case rel => exact ⟨x + 1, by omega, by go_num, by rw [HS.out, if_pos (by simp [HY.out])]; rfl, HM.out⟩
          case measure => simp [intOf] <;> omega
      · have j1 : ((y : Int) == (q : Int)) = false := by rw [beq_eq_false_iff_ne]; omega
        have HY := Lib.hid hy
        clear hy
        cases bt with
        | true =>
          go_wp2_with fail
          go_roundw
          case rel => exact ⟨x + 1, by omega, by go_num, by rw [HS.out]; rfl, HM.out⟩
          case measure => simp [intOf] <;> omega
        | false =>
          cases bn with
          | true =>
            go_wp2_with fail
            go_roundw
            case rel => exact ⟨x + 1, by omega, by go_num, by rw [HS.out, if_pos (by simp)]; rfl, HM.out⟩
            case measure => simp [intOf] <;> omega
          | false =>
            go_wp2_with fail
            go_roundw
            case rel => exact ⟨x + 1, by omega, by go_num, by rw [HS.out, if_neg (by simp [HY.out])]; rfl, HM.out⟩
            case measure => simp [intOf] <;> omega
    · obtain rfl : x = M.l := by omega
      have i3 : ¬ ((M.l : Int) < (M.l : Int)) := by omega
      have HB := Lib.hid hM.below
      rw [HCE.out] at *
      clear hM
      generalize M.tbl.cntR (trivB M) q = c at *
      go_wp2_with fail
      go_ret
      exact ⟨ret_bool (by rw [Bool.eq_iff_iff]; simp; omega), HB.out⟩
end Go.Proofs.Ythgkkaifdlkciaa
