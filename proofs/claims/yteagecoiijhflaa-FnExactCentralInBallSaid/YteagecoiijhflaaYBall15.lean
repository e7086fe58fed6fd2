import Derived.Test.YteagecoiijhflaaYBall13
import Derived.Test.YteagecoiijhflaaYBall14
import Derived.Test.YteagecoiijhflaaYBall10
/- slices.Index and slices.Contains over numbers; the program's search for an order in the memory. -/
namespace Go.Proofs.Yteagecoiijhflaa
open Go.RowKit
set_option linter.unusedVariables false
set_option linter.unusedSimpArgs false

/-- the place of a number in a row, or -1 -/
theorem dN_below (w : World) (n : Nat) : Below w.heap.size w (w.drewN n) := ⟨rfl, rfl, rfl, Nat.le_refl _, fun _ _ => rfl⟩
def idxI (xs : List Int) (y : Int) : Int := if y ∈ xs then (xs.idxOf y : Int) else -1
set_option maxHeartbeats 1000000 in
theorem slIndexI_any (a : Option Addr) (c : Nat) (xs : List Int) (y : Int) (hx : xs.length ≤ 1000000) (w : World) (ha : IntsAt w a xs) :
    Calls Try.prog 154 #[.slice a xs.length c, .int .i64 y] w (RetQ (.int .i64 (idxI xs y)) w) := by
  have HA := Lib.hid ha
  clear ha
  go_enter Try.func154, Try.ntmps154
  go_wp2_with fail
  go_loopw [5, 8] (fun _ i wr => ∃ j : Nat, j ≤ xs.length ∧ i = .int .i64 j ∧ Hid (∃ n, wr = w.drewN n) ∧ Hid (∀ q, q < j → xs[q]?.getD 0 ≠ y)) (fun _ i _ => xs.length - (intOf i).toNat)
  case atStart => exact ⟨0, Nat.zero_le _, rfl, ⟨0, rfl⟩, fun q hq => by omega⟩
  case round =>
    obtain ⟨j, hj, rfl, HW, HN⟩ := hrel
    by_cases hlt : j < xs.length
    · obtain ⟨g, off, rfl, hc⟩ := HA.out j hlt
      have hcell : ∀ a, wr.cell? a = w.cell? a := fun a => by obtain ⟨n, hn⟩ := HW.out; rw [hn]; rfl
      rw [← hcell] at hc
      clear hcell
      have i1 : (0 : Int) ≤ (j : Int) := by omega
      have i2 : (j : Int) < (xs.length : Int) := by omega
      obtain ⟨x, hx⟩ : ∃ x, x = xs[j]?.getD 0 := ⟨_, rfl⟩
      rw [← hx] at hc
      by_cases e : y = x
      · have HR : Hid (idxI xs y = (j : Int)) := by
          show _ = _
          unfold idxI
          rw [e, hx, List.getElem?_eq_getElem hlt, Option.getD_some]
          rw [if_pos (List.getElem_mem hlt)]
          have h1 := List.idxOf_lt_length_iff.2 (List.getElem_mem hlt)
          have h2 : xs[xs.idxOf xs[j]] = xs[j] := List.getElem_idxOf h1
          rcases Nat.lt_trichotomy (xs.idxOf xs[j]) j with c | c | c
          · exfalso
            have := HN.out _ c
            rw [List.getElem?_eq_getElem h1, Option.getD_some, h2] at this
            rw [List.getElem?_eq_getElem hlt, Option.getD_some] at hx
            exact this (by rw [e, hx])
          · rw [c]
          · exfalso
            have := List.not_of_lt_findIdx (p := (· == xs[j])) (xs := xs) (i := j) (by simpa [List.idxOf] using c)
            simp at this
        subst e
        clear hx
        go_wp2_with fail
        go_ret
        exact ⟨ret_int HR.out.symm, HW.out⟩
      · have HN2 : Hid (∀ q, q < j + 1 → xs[q]?.getD 0 ≠ y) := fun q hq => by
          by_cases h : q = j
          · subst h; rw [← hx]; exact Ne.symm e
          · exact HN.out q (by omega)
        have e1 : (y == x) = false := by simpa using e
        clear hx
        go_wp2_with fail
        go_roundw
        case rel => exact ⟨j + 1, by omega, by go_num, HW.out, HN2⟩
        case measure => simp [intOf] <;> omega
    · have HR : Hid (idxI xs y = -1) := if_neg fun h => by
        obtain ⟨q, hq, e⟩ := List.getElem_of_mem h
        exact HN.out q (by omega) (by rw [List.getElem?_eq_getElem hq, Option.getD_some, e])
      have hj' : ¬ (j : Int) < xs.length := by omega
      go_wp2_with fail
      go_ret
      exact ⟨ret_int HR.out.symm, HW.out⟩
theorem slContainsI_any (a : Option Addr) (c : Nat) (xs : List Int) (y : Int) (hx : xs.length ≤ 1000000) (w : World) (ha : IntsAt w a xs) :
    Calls Try.prog 140 #[.slice a xs.length c, .int .i64 y] w (RetQ (.bool (decide (y ∈ xs))) w) := by
  have HX := Lib.hid (slIndexI_any a c xs y hx w ha)
  go_enter Try.func140, Try.ntmps140
  by_cases h : y ∈ xs
  · rw [show idxI xs y = (xs.idxOf y : Int) from if_pos h] at HX
    have H := Lib.hid (decide_eq_true h)
    generalize xs.idxOf y = q at *
    have i1 : (0 : Int) ≤ (q : Int) := by omega
    clear h ha
    go_wp2_with (refine HX.out.mono ?_; rintro e w1 ⟨rfl, n, rfl⟩)
    go_ret
    exact ⟨ret_bool H.out.symm, n, rfl⟩
  · rw [show idxI xs y = -1 from if_neg h] at HX
    have H := Lib.hid (decide_eq_false h)
    clear h ha
    go_wp2_with (refine HX.out.mono ?_; rintro e w1 ⟨rfl, n, rfl⟩)
    go_ret
    exact ⟨ret_bool H.out.symm, n, rfl⟩
end Go.Proofs.Yteagecoiijhflaa

/- (*table).machineFrom: the machine of state 0 of a table. -/
namespace Go.Proofs.Yteagecoiijhflaa
open Go.RowKit
set_option linter.unusedVariables false
set_option linter.unusedSimpArgs false

/-- the beginning of a region in drawn order, the world a letter of which Φ is known -/
theorem region_A {P : Program} {ops : Array Oper} {Q : Exit → Act → World → Prop} {id : Nat} {a : Act} {w : World} (S : World → Prop) (L : List Nat) (n : Nat) (Φ : World → Prop) (hn : ops.size = n) (hm : P.follows .mixedOrders = true) (hΦ : Φ w.drew) (hS : ∀ w, Φ w → S w)
    (h : ∀ w, Φ w → Upto S L (Array.replicate n false) w → AnyS P .any ops Q S L n (Array.replicate n false) a w) : (Code.region id ops true).wp P Q a w :=
  region_S S L n hn hm (hS _ hΦ) fun hU => h _ hΦ hU
theorem results_ct {P : Program} {fn : Func} {p q : Tmp} {ty : TypeId} (h : fn.results = #[.cell p ty, .tmp q]) (tmps : Array Value) (w : World) (g : Nat) (t : TypeId) (cs : Array Value) (fr : Nat × Nat) (d : TypeDesc)
    (hp : tmps.getD p undef = .pointer (some ⟨g, 0, none⟩)) (hg : w.heap[g]? = some (.cells cs t fr))
    (hu : P.underlying ty = some d) (hd : (match d with | .struct _ | .array _ _ => true | _ => false) = true) (hi : (P.info? ty).map (·.size) = some cs.size) :
    (results fn tmps).run P w = .ok (.tuple #[.agg cs, tmps.getD q undef]) w := by
  have hp' : tmps[p]?.getD undef = .pointer (some ⟨g, 0, none⟩) := by simpa using hp
  simp [results, h, hp', asAddr, run_loadVar_row w g t ty cs fr d hg hu hd hi]
/-- a machine, or the code 3 -/
def RetM (r : Option Mch) (w : World) (e : Ending) (w' : World) : Prop := Below w.heap.size w w' ∧ match r with
  | none => e = .returned (.tuple #[.agg Try.zeroCells29, .int .i64 3])
  | some M => e = .returned (.tuple #[.agg M.cells.toArray, .int .i64 0])
theorem zero_ones : ∀ v ∈ Try.zeroCells29.toList, v.oneCell' = true := List.all_eq_true.1 (by kernel_rfl)
theorem natsI_len (S : List Nat) : (natsI S).length = S.length := by simp [natsI]
theorem natsI_get {S : List Nat} {i : Nat} (h : i < S.length) : (natsI S)[i]?.getD 0 = ((S[i]?.getD 0 : Nat) : Int) := by simp [natsI, List.getElem?_map, List.getElem?_eq_getElem h]
theorem natsI_mem {S : List Nat} {r : Nat} : (r : Int) ∈ natsI S ↔ r ∈ S := by
  simp only [natsI, List.mem_map]
  constructor
  · rintro ⟨x, hx, e⟩
    have : x = r := by omega
    rw [← this]; exact hx
  · intro h; exact ⟨r, h, rfl⟩
theorem natsI_idx (r : Nat) : ∀ S : List Nat, (natsI S).idxOf (r : Int) = S.idxOf r
  | [] => rfl
  | x :: S => by
    have ih := natsI_idx r S
    simp only [natsI, List.map_cons, List.idxOf_cons] at ih ⊢
    by_cases e : x = r
    · subst e; simp
    · have e1 : (x == r) = false := by simpa using e
      have e2 : ((x : Int) == (r : Int)) = false := by simp; omega
      rw [e1, e2]
      simp only [cond_false]
      rw [ih]
theorem idxI_nats {S : List Nat} {r : Nat} (h : r ∈ S) : idxI (natsI S) (r : Int) = (S.idxOf r : Int) := by
  rw [idxI, if_pos (natsI_mem.2 h), natsI_idx]
theorem natsI_ins (S : List Nat) (r : Nat) : decide ((r : Int) ∈ natsI S) = decide (r ∈ S) := by
  by_cases h : r ∈ S
  · rw [decide_eq_true h, decide_eq_true (natsI_mem.2 h)]
  · rw [decide_eq_false h, decide_eq_false fun k => h (natsI_mem.1 k)]

set_option maxHeartbeats 1000000 in
theorem machineFrom1_any (t : Tbl) (hn : t.n ≤ 1000) (b8 b9 : Nat) (aS aF : Option Addr) (cS cF : Nat) (S : List Nat) (hSl : S.length ≤ 1000) (r : Nat) (hr : r < t.n) (hm : t.fin r ∈ S) (w : World)
    (h9 : w.cell? ⟨b9, 0, none⟩ = some (.slice aS (natsI S).length cS)) (h8 : w.cell? ⟨b8, 0, none⟩ = some (.slice aF (finL t).length cF)) (hS : IntsAt w aS (natsI S)) (hF : IntsAt w aF (finL t)) :
    Calls Try.prog 160 #[.int .i64 (r : Int), .pointer (some ⟨b9, 0, none⟩), .pointer (some ⟨b8, 0, none⟩)] w (RetQ (.int .i64 (S.idxOf (t.fin r) : Int)) w) := by
  have HIX : Hid (∀ d, Calls Try.prog 154 #[.slice aS (natsI S).length cS, .int .i64 (t.fin r : Int)] (w.drewN d) (RetQ (.int .i64 (idxI (natsI S) (t.fin r : Int))) (w.drewN d))) := fun d =>
    slIndexI_any aS cS (natsI S) (t.fin r : Int) (by rw [natsI_len]; omega) (w.drewN d) (hS.keep (dN_below w d))
  have HV := Lib.hid (idxI_nats hm)
  obtain ⟨g, o, rfl, c⟩ := hF r (by rw [finL_len]; exact hr)
  rw [finL_get t hr] at c
  have i1 : (0 : Int) ≤ (r : Int) := by omega
  have i2 : (r : Int) < ((finL t).length : Int) := by rw [finL_len]; omega
  generalize t.fin r = fr at *
  clear hS hF hm
  go_enter Try.func160, Try.ntmps160
  go_wp2_with fail
  go_quiet ((go_at_call 154; exact Calls.quiet_of (HIX.out _)))
  go_wp2_with fail
  go_ret
  rw [HV.out]
  exact ⟨rfl, _, rfl⟩
theorem enters_mf1 : Enters 160 := fun args w => by kernel_rfl

theorem mwT_big {L : Int} {t : Tbl} (h : 16 < (ordT t).length) : mwT L t = none := if_pos h
theorem mwT_ok {L : Int} {t : Tbl} (h : ¬ 16 < (ordT t).length) : mwT L t = some (gathM L t (ordT t) fun r => (ordT t).idxOf (t.fin r)) := if_neg h

set_option maxRecDepth 100000 in
set_option maxHeartbeats 4000000 in
theorem machineFrom_any (t : Tbl) (hw : t.Wf) (hn : t.n ≤ 1000) (hn1 : 1 ≤ t.n) (hd : t.d ≤ 3) (T : Nat) (L : Int) (hL : -9223372036854775808 ≤ L ∧ L ≤ 9223372036854775807) (hot : ∀ q x, q < t.n → x < t.d → t.ot q x ≤ 255) (w : World) (hT : TabG w T t) :
    Calls Try.prog 146 #[.pointer (some ⟨T, 0, none⟩), .int .i64 L, .int .i64 0] w (RetM (mwT L t) w) := by
  have hmf : ∀ (fn : Fn) (first cap : Array Value) (w : World), (Instr.makeFunc fn first cap).run Try.prog w = .ok (.func fn first cap) w := fun _ _ _ _ => rfl
  obtain ⟨i0, hi0, hz0, hz1, hz2⟩ := info_parts Try.info2
  have HMX := Lib.hid (show Try.prog.follows .mixedOrders = true by kernel_rfl)
  obtain ⟨gN, cN, gO, cO, t1, t2, t3, t4⟩ := id hT
  have HT := Lib.hid hT
  have HT1 := Lib.hid t1
  have HT3 := Lib.hid t3
  have HOT := Lib.hid hot
  have HWF := Lib.hid hw
  have hM0 := (Mm.start w).alloc Try.zeroCells29 29
  have HLE := Lib.hid (least_any t hw hn (by omega) hn1 T (w.alloc (.cells Try.zeroCells29 29)) (hT.keep ((Below.refl _ w).alloc (Nat.le_refl _) _)))
  have HM0 := Lib.hid hM0
  clear hT t1 t2 t3 t4 hot hM0
  go_enter Try.func146, Try.ntmps146
  go_wp2_with fail
  refine HLE.out.mono ?_
  rintro e w1 ⟨v, rfl, hb1, hO1⟩
  obtain ⟨aF, cF, rfl, hIF⟩ := id hO1.form
  have hM1 := (HM0.out.callOwn hb1 (v := .slice aF (finL t).length cF) (E := 2) (n := (finL t).length) (xs := i64s (finL t)) hO1 (by simp [i64s])).alloc #[.slice aF (finL t).length cF] 26
  have hI2 := hIF.keep ((Below.refl _ w1).alloc (Nat.le_refl _) (.cells #[.slice aF (finL t).length cF] 26))
  obtain ⟨gF, oF, eF, cz⟩ := hI2 0 (by rw [finL_len]; omega)
  subst eF
  rw [finL_get t (by omega), Nat.add_zero] at cz
  have c8 := (hM1.at 0 rfl).cell' (i := 0) rfl
  have hM2 := hM1.newOwn #[.int .i64 (t.fin 0 : Int)] 2 1 rfl (by omega)
  rw [World.size_alloc] at hM2
  have hM3 := hM2.alloc #[.slice (some ⟨w1.heap.size + 1, 0, none⟩) 1 1] 26
  have HFL := Lib.hid (finL_len t)
  have f1 : (0 : Int) < ((finL t).length : Int) := by rw [finL_len]; omega
  have HM3 := Lib.hid hM3
  have HI2 := Lib.hid hI2
  clear HM0 HLE hO1 hIF hb1 hM1 hM2 hM3 hI2
  go_wp2_with fail
  obtain ⟨W3, hW3⟩ : ∃ W, W = ((w1.alloc (.cells #[.slice (some ⟨gF, oF, none⟩) (finL t).length cF] 26)).alloc (.cells #[.int .i64 (t.fin 0 : Int)] 2)).alloc (.cells #[.slice (some ⟨w1.heap.size + 1, 0, none⟩) 1 1] 26) := ⟨_, rfl⟩
  have HM4 : Hid (Mm w.heap.size w W3 [(w1.heap.size + 1 + 1, [.slice (some ⟨w1.heap.size + 1, 0, none⟩) 1 1], 26), (w1.heap.size, [.slice (some ⟨gF, oF, none⟩) (finL t).length cF], 26), (w.heap.size, Try.zeroCells29.toList, 29)]
      [(.slice (some ⟨w1.heap.size + 1, 0, none⟩) 1 1, 2, i64s (natsI (bfsN t 0))), (.slice (some ⟨gF, oF, none⟩) (finL t).length cF, 2, i64s (finL t))]) := by
    have h := HM3.out
    simp only [World.size_alloc] at h
    rw [hW3]; exact h
  rw [← hW3]
  clear HM3 HI2 cz c8 hW3
  generalize w1.heap.size + 1 + 1 = b9 at *
  generalize w1.heap.size + 1 = bs at *
  generalize w1.heap.size = b8 at *
  go_loopw [10] (fun iv wr => ∃ (i : Nat) (vS : Value), i ≤ t.n ∧ iv = .int .i64 (i : Int) ∧ i ≤ (bfsN t i).length ∧ Mm w.heap.size w wr [(b9, [vS], 26), (b8, [.slice (some ⟨gF, oF, none⟩) (finL t).length cF], 26), (w.heap.size, Try.zeroCells29.toList, 29)]
      [(vS, 2, i64s (natsI (bfsN t i))), (.slice (some ⟨gF, oF, none⟩) (finL t).length cF, 2, i64s (finL t))]) (fun i _ => t.n + 1 - (intOf i).toNat)
  case atStart => exact ⟨0, _, Nat.zero_le _, rfl, Nat.zero_le _, HM4.out⟩
  case round =>
    clear HM4
    obtain ⟨i, vS, hi, rfl, hil, hM⟩ := hrel
    have hok := bfsN_ok HWF.out hn1 i
    have hlen := hok.len
    have ei : IntKind.i64.wrap ((i : Int) + 1) = (i : Int) + 1 := IntWalk.i64_in _ (by omega)
    have c9 := (hM.at 0 rfl).cell' (i := 0) rfl
    have c8 := (hM.at 1 rfl).cell' (i := 0) rfl
    have HOS := Lib.hid (OwnI.of_row (hM.own _ (List.mem_cons_self ..)))
    obtain ⟨aS, cS, eS, hIS⟩ := HOS.out.form
    rw [natsI_len] at eS
    subst eS
    have hIF := hM.intsAt 1 rfl
    have HIS := Lib.hid hIS
    have HIF := Lib.hid hIF
    by_cases hlt : i < (bfsN t i).length
    · have HBS := Lib.hid (bfsN_step hlt)
      have HIL : Hid (i + 1 ≤ (bfsN t (i + 1)).length ∧ i + 1 ≤ t.n) := by
        obtain ⟨R, hR⟩ := bfsX_pre t ((bfsN t i)[i]?.getD 0) (bfsN t i) t.d
        refine ⟨?_, by omega⟩
        rw [HBS.out, hR, List.length_append]; omega
      have hq := bfsN_at HWF.out hn1 hlt
      obtain ⟨gs, os, rfl, cs⟩ := hIS i (by rw [natsI_len]; exact hlt)
      rw [natsI_get hlt] at cs
      have HOKB := Lib.hid hok
      generalize bfsN t i = Sq at *
      generalize Sq[i]?.getD 0 = q at *
      obtain ⟨g1, c1, d1, d2⟩ := HT3.out q hq
      have ct := (hM.below.cell (World.block_lt_of_cell? _ _ HT1.out)).trans HT1.out
      have cn := (hM.below.cell (World.block_lt_of_cell? _ _ d1)).trans d1
      have HD2 := Lib.hid d2
      have HQ := Lib.hid hq
      have i1 : (0 : Int) ≤ (i : Int) := by omega
      have i2 : (i : Int) < (Sq.length : Int) := by omega
      have i3 : (0 : Int) ≤ (q : Int) := by omega
      have i4 : (q : Int) < (t.n : Int) := by omega
      clear d1 d2 hIS hIF hok
      go_wp2_with fail
      go_quiet (fail)
      go_wp2_with fail
      clear c9 c8 cs ct cn
      have HMd : Hid (∀ d, Mm w.heap.size w (wr.drewN d) [(b9, [.slice (some ⟨gs, os, none⟩) Sq.length cS], 26), (b8, [.slice (some ⟨gF, oF, none⟩) (finL t).length cF], 26), (w.heap.size, Try.zeroCells29.toList, 29)]
        [(.slice (some ⟨gs, os, none⟩) Sq.length cS, 2, i64s (natsI Sq)), (.slice (some ⟨gF, oF, none⟩) (finL t).length cF, 2, i64s (finL t))]) := fun d => hM.drewN d
      clear hM
      go_loopw [37] (fun xv wi => ∃ (x : Nat) (vS : Value), x ≤ t.d ∧ xv = .int .i64 (x : Int) ∧ Mm w.heap.size w wi [(b9, [vS], 26), (b8, [.slice (some ⟨gF, oF, none⟩) (finL t).length cF], 26), (w.heap.size, Try.zeroCells29.toList, 29)]
        [(vS, 2, i64s (natsI (bfsX t q Sq x))), (.slice (some ⟨gF, oF, none⟩) (finL t).length cF, 2, i64s (finL t))]) (fun i _ => t.d - (intOf i).toNat)
      case atStart => exact ⟨0, _, Nat.zero_le _, rfl, HMd.out _⟩
      case round =>
        clear HMd HOS HIS HIF
        obtain ⟨x, vS, hx, rfl, hM⟩ := hrel
        have ex : IntKind.i64.wrap ((x : Int) + 1) = (x : Int) + 1 := IntWalk.i64_in _ (by omega)
        by_cases hxl : x < t.d
        · have hR := HOKB.out.row HWF.out HQ.out x hx
          have hRl := hR.len
          have HIN : Hid (bfsX t q Sq (x + 1) = insN (bfsX t q Sq x) (t.fin (t.nx q x))) := rfl
          have cx := (hM.below.cell (World.block_lt_of_cell? _ _ (HD2.out x hxl))).trans (HD2.out x hxl)
          have hnr := HWF.out q x HQ.out hxl
          have c9 := (hM.at 0 rfl).cell' (i := 0) rfl
          have c8 := (hM.at 1 rfl).cell' (i := 0) rfl
          obtain ⟨aS2, cS2, eS, hIS⟩ := (OwnI.of_row (hM.own _ (List.mem_cons_self ..))).form
          rw [natsI_len] at eS
          subst eS
          have hIF := hM.intsAt 1 rfl
          obtain ⟨gf2, of2, eF2, cf⟩ := hIF (t.nx q x) (by rw [finL_len]; exact hnr)
          injection eF2 with eF2
          injection eF2 with eF3 eF4
          subst eF3 eF4
          rw [finL_get t hnr] at cf
          have j1 : (0 : Int) ≤ (x : Int) := by omega
          have j2 : (x : Int) < (t.d : Int) := by omega
          have j3 : (0 : Int) ≤ (t.nx q x : Int) := by omega
          have j4 : (t.nx q x : Int) < ((finL t).length : Int) := by rw [finL_len]; omega
          generalize bfsX t q Sq x = R at *
          generalize t.nx q x = nr at *
          have HCN : Hid (∀ d, Calls Try.prog 140 #[.slice aS2 R.length cS2, .int .i64 (t.fin nr : Int)] (wr.drewN d) (RetQ (.bool (decide (t.fin nr ∈ R))) (wr.drewN d))) := fun d => by
            have h := slContainsI_any aS2 cS2 (natsI R) (t.fin nr : Int) (by rw [natsI_len]; omega) (wr.drewN d) (hIS.keep (dN_below wr d))
            rwa [natsI_ins, natsI_len] at h
          generalize hfr : t.fin nr = fr at *
          have HFR : Hid (t.fin nr = fr) := hfr
          clear hfr
          by_cases hmem : fr ∈ R
          · have HI2 : Hid (bfsX t q Sq (x + 1) = R) := by show _ = _; rw [HIN.out, insN, if_pos hmem]
            rw [decide_eq_true hmem] at HCN
            have HMd : Hid (∀ d, Mm w.heap.size w (wr.drewN d) [(b9, [.slice aS2 R.length cS2], 26), (b8, [.slice (some ⟨gF, oF, none⟩) (finL t).length cF], 26), (w.heap.size, Try.zeroCells29.toList, 29)]
              [(.slice aS2 R.length cS2, 2, i64s (natsI R)), (.slice (some ⟨gF, oF, none⟩) (finL t).length cF, 2, i64s (finL t))]) := fun d => hM.drewN d
            clear hM hmem hIS hIF HIN hR
            go_wp2_with fail
            go_quiet ((go_at_call 140; exact Calls.quiet_of (HCN.out _)))
            go_wp2_with fail
            go_roundw
            case rel => exact ⟨x + 1, _, by omega, by go_num, by rw [HI2.out]; exact HMd.out _⟩
            case measure => simp [intOf] <;> omega
          · have HI2 : Hid (bfsX t q Sq (x + 1) = R ++ [fr]) := by show _ = _; rw [HIN.out, insN, if_neg hmem]
            rw [decide_eq_false hmem] at HCN
            have HMd : Hid (∀ d, Mm w.heap.size w (wr.drewN d).drew [(b9, [.slice aS2 R.length cS2], 26), (b8, [.slice (some ⟨gF, oF, none⟩) (finL t).length cF], 26), (w.heap.size, Try.zeroCells29.toList, 29)]
              [(.slice aS2 R.length cS2, 2, i64s (natsI R)), (.slice (some ⟨gF, oF, none⟩) (finL t).length cF, 2, i64s (finL t))]) := fun d => (hM.drewN d).drew
            have HSF : Hid (∀ W, IntsAt W (some ⟨gF, oF, none⟩) (finL t) → W.cell? ⟨gF, oF + nr, none⟩ = some (.int .i64 (fr : Int))) := fun W h => by
              obtain ⟨g, o, e, c⟩ := h nr (by rw [finL_len]; exact hnr)
              injection e with e
              injection e with e1 e2
              subst e1 e2
              rw [finL_get t hnr, HFR.out] at c
              exact c
            have hRl2 : (i64s (natsI R)).length ≤ 1000000 := by simp only [i64s, List.length_map, natsI_len]; omega
            have HRL := Lib.hid hRl2
            clear hM hmem hIS hIF HIN hR hRl2
            go_wp2_with fail
            go_quiet ((go_at_call 140; exact Calls.quiet_of (HCN.out _)))
            go_wp2_with fail
            clear c9 c8 cf cx HCN
            refine region_A (fun W => (W.cell? ⟨b9, 0, none⟩ = some (.slice aS2 R.length cS2) ∧ W.cell? ⟨b8, 0, none⟩ = some (.slice (some ⟨gF, oF, none⟩) (finL t).length cF)) ∧ W.cell? ⟨gF, oF + nr, none⟩ = some (.int .i64 (fr : Int))) [7] 8 (fun W => Mm w.heap.size w W [(b9, [.slice aS2 R.length cS2], 26), (b8, [.slice (some ⟨gF, oF, none⟩) (finL t).length cF], 26), (w.heap.size, Try.zeroCells29.toList, 29)]
              [(.slice aS2 R.length cS2, 2, i64s (natsI R)), (.slice (some ⟨gF, oF, none⟩) (finL t).length cF, 2, i64s (finL t))]) rfl HMX.out (HMd.out _) (fun W h => ⟨⟨(h.at 0 rfl).cell' rfl, (h.at 1 rfl).cell' rfl⟩, HSF.out _ (h.intsAt 1 rfl)⟩) (fun W hM hU => ?_)
            clear HMd
            (refine AnyS.takeS (i := 0) rfl (by kernel_rfl) (by kernel_rfl) (by kernel_rfl) (by rfl) (by kernel_rfl) (by kernel_rfl) (fun _ _ _ h => h) (by rfl) (by intro W hSw; have h1 := hSw.1.1; clear hSw; go_simp; with_reducible rfl) hU (fun hU => ?_); (try simp only [Act.put, List.setIfInBounds_toArray, List.set_cons_zero, List.set_cons_succ]))
            (refine AnyS.takeS (i := 1) rfl (by kernel_rfl) (by kernel_rfl) (by kernel_rfl) (by rfl) (by kernel_rfl) (by kernel_rfl) (fun _ _ _ h => h) (by rfl) (by intro W hSw; have h1 := hSw.1.2; clear hSw; go_simp; with_reducible rfl) hU (fun hU => ?_); (try simp only [Act.put, List.setIfInBounds_toArray, List.set_cons_zero, List.set_cons_succ]))
            (refine AnyS.take (i := 2) rfl (by kernel_rfl) (by kernel_rfl) (by kernel_rfl) (by rfl) (fun _ _ _ h => h) (by rfl) (by intro w; go_simp; with_reducible rfl) hU (fun hU => ?_); (try simp only [Act.put, List.setIfInBounds_toArray, List.set_cons_zero, List.set_cons_succ]); refine AnyS.take (i := 3) rfl (by kernel_rfl) (by kernel_rfl) (by kernel_rfl) (by rfl) (fun _ _ _ h => h) (by rfl) (by intro w; go_simp; with_reducible rfl) hU (fun hU => ?_); (try simp only [Act.put, List.setIfInBounds_toArray, List.set_cons_zero, List.set_cons_succ]))
            (refine AnyS.takeS (i := 4) rfl (by kernel_rfl) (by kernel_rfl) (by kernel_rfl) (by rfl) (by kernel_rfl) (by kernel_rfl) (fun _ _ _ h => h) (by rfl) (by intro W hSw; have h1 := hSw.2; clear hSw; go_simp; with_reducible rfl) hU (fun hU => ?_); (try simp only [Act.put, List.setIfInBounds_toArray, List.set_cons_zero, List.set_cons_succ]))
            (refine AnyS.branch (rs := [5]) (by kernel_rfl) (List.cons_ne_nil _ _) ?_; refine AllS.cons rfl ?_ AllS.nil; intro K hK)
            have hM5 := hM.alloc #[.int .i64 (fr : Int)] 2
            go_simp
            refine hK.out _ _ (.inl ⟨⟨(hM5.at 1 rfl).cell' rfl, (hM5.at 2 rfl).cell' rfl⟩, HSF.out _ (hM5.intsAt 1 rfl)⟩) (fun hU => ?_)
            clear hK K hM
            (try simp only [Act.put, List.setIfInBounds_toArray, List.set_cons_zero, List.set_cons_succ])
            generalize W.alloc (.cells #[.int .i64 (fr : Int)] 2) = W5 at *
            generalize W.heap.size = b5 at *
            (refine AnyS.branch (rs := [6]) (by kernel_rfl) (List.cons_ne_nil _ _) ?_; refine AllS.cons rfl ?_ AllS.nil; intro K hK)
            have hbl := hM5.blk _ (List.mem_cons_self ..)
            refine Mm.stepRow rfl (.tmp 48) (.tmp 53) 26 rfl hM5 0 rfl Try.underlying26 hi0 hz0 hz1 hz2 rfl rfl rfl (n := 1) rfl (blk_own hbl.1 hbl.2 1 rfl (by omega)) (by simp [Value.oneCell']) HRL.out (by simp) (by omega) ?_
            intro v6 W6 hM6
            (try simp only [List.set_cons_zero] at hM6)
            refine hK.out _ _ (.inl ⟨⟨(hM6.at 1 rfl).cell' rfl, (hM6.at 2 rfl).cell' rfl⟩, HSF.out _ (hM6.intsAt 1 rfl)⟩) (fun hU => ?_)
            clear hK K hbl hM5
            (try simp only [Act.put, List.setIfInBounds_toArray, List.set_cons_zero, List.set_cons_succ])
            obtain ⟨g6, c6, rfl⟩ : ∃ g6 c6, v6 = .slice (some ⟨g6, 0, none⟩) ((i64s (natsI R)).length + 1) c6 := by
              have ho := hM6.own _ (List.mem_cons_self ..)
              simp only at ho
              obtain ⟨g, c, e, -, -, -⟩ := own_form ho (by simp)
              exact ⟨g, c, by rw [e]; simp⟩
            (refine AnyS.branch (rs := [7]) (by kernel_rfl) (List.cons_ne_nil _ _) ?_; refine AllS.cons rfl ?_ AllS.nil; intro K hK)
            have c9 := (hM6.at 1 rfl).cell' (i := 0) rfl
            have f9 := (hM6.at 1 rfl).free 0
            have hM7 := hM6.setCell 1 rfl 0 (.slice (some ⟨g6, 0, none⟩) ((i64s (natsI R)).length + 1) c6)
            (try simp only [List.set_cons_zero, List.set_cons_succ] at hM7)
            have HM7 := Lib.hid hM7
            clear hM6 hM7
            go_simp
            refine hK.out _ _ (.inr ⟨7, by simp, by rfl⟩) (fun hU => ?_)
            clear hK K c9 f9
            (try simp only [Act.put, List.setIfInBounds_toArray, List.set_cons_zero, List.set_cons_succ])
            refine AnyS.done (by kernel_rfl) ?_ _
            clear hU
            have HM8 : Hid (Mm w.heap.size w (W6.setCell ⟨b9, 0, none⟩ (.slice (some ⟨g6, 0, none⟩) ((i64s (natsI R)).length + 1) c6)) [(b9, [.slice (some ⟨g6, 0, none⟩) ((i64s (natsI R)).length + 1) c6], 26), (b8, [.slice (some ⟨gF, oF, none⟩) (finL t).length cF], 26), (w.heap.size, Try.zeroCells29.toList, 29)]
              [(.slice (some ⟨g6, 0, none⟩) ((i64s (natsI R)).length + 1) c6, 2, i64s (natsI (bfsX t q Sq (x + 1)))), (.slice (some ⟨gF, oF, none⟩) (finL t).length cF, 2, i64s (finL t))]) := by
              have h := HM7.out.sub (List.sublist_cons_self _ _)
              have e : i64s (natsI (R ++ [fr])) = i64s (natsI R) ++ [Value.int .i64 (fr : Int)] := by simp [i64s, natsI]
              rw [HI2.out, e]
              exact h
            clear HM7
            generalize W6.setCell ⟨b9, 0, none⟩ (.slice (some ⟨g6, 0, none⟩) ((i64s (natsI R)).length + 1) c6) = W7 at *
            go_wp2_with fail
            go_roundw
            case rel => exact ⟨x + 1, _, by omega, by go_num, HM8.out⟩
            case measure => simp [intOf] <;> omega
        · have hx' : x = t.d := by omega
          subst hx'
          rw [← HBS.out] at hM
          go_wp2_with fail
          go_roundw
          case rel => exact ⟨i + 1, _, HIL.out.2, by go_num, HIL.out.1, hM⟩
          case measure => simp [intOf] <;> omega
    · have hEq : ordT t = bfsN t i := ordT_end HWF.out hn1 (by omega)
      have hEl : i = (bfsN t i).length := by omega
      rw [← hEq] at hEl hM hok c9 hIS
      by_cases h16 : 16 < (ordT t).length
      · have HR := Lib.hid (mwT_big (L := L) h16)
        have j1 : (16 : Int) < ((ordT t).length : Int) := by omega
        have ht := (hM.at 2 rfl).there 0 Try.zeroCells29.toList.length (by simp)
        have hM2 := hM.setAll 2 rfl (vs := Try.zeroCells29.toList) rfl
        have HB := Lib.hid (hM2.at 2 rfl)
        have HM2 := Lib.hid hM2
        have HIZ : Hid ((Try.prog.info? 29).map (·.size) = some Try.zeroCells29.toList.length) := by show _ = _; rw [zero_len]; kernel_rfl
        have HOZ : Hid (∀ v ∈ Try.zeroCells29.toList, v.oneCell' = true) := zero_ones
        have HI5 : Hid ((Try.prog.info? 29).map (·.size) = some Try.zeroCells29.size) := by show _ = _; rw [HIZ.out, Array.length_toList]
        clear hM2 hM hIS hIF hok hEq
        go_wp2_with ((with_reducible refine st_row ?_ 29 (.tmp 6) (.tmp 59) ?_ w.heap.size 0 Try.zeroCells29.toList ?_ ?_ ht HIZ.out HOZ.out ?_); exact rfl; exact rfl; exact rfl; exact rfl)
        refine bodyPost_ret (v := .tuple #[.agg Try.zeroCells29, .int .i64 3]) (results_ct Try.results146 _ _ w.heap.size 29 Try.zeroCells29 (0, 0) (.struct _) rfl HB.out Try.underlying29 rfl HI5.out) rfl ?_
        rw [HR.out]
        exact ⟨HM2.out.below, rfl⟩
      · have HR := Lib.hid (mwT_ok (L := L) h16)
        have j1 : ¬ (16 : Int) < ((ordT t).length : Int) := by omega
        have hSlt : ∀ i, i < (ordT t).length → (ordT t)[i]?.getD 0 < t.n := fun i hi => bfsN_at HWF.out hn1 hi
        have hnx : ∀ i x, i < (ordT t).length → x < t.d → t.fin (t.nx ((ordT t)[i]?.getD 0) x) ∈ ordT t := fun i x hi hx => ordT_next HWF.out hn1 hi hx
        have HGA := Lib.hid (gathered_any t HWF.out hn hd T L hL (ordT t) (by omega) hSlt (fun r => (ordT t).idxOf (t.fin r)) (fun i x hi hx => by have := List.idxOf_lt_length_iff.2 (hnx i x hi hx); omega) (fun i x hi hx => HOT.out _ _ (hSlt i hi) hx)
          160 enters_mf1 #[.pointer (some ⟨b9, 0, none⟩), .pointer (some ⟨b8, 0, none⟩)] aS cS wr (HT.out.keep hM.below) hIS (fun W hW i x hi hx => by
            have h9 := (hW.cell (World.block_lt_of_cell? _ _ c9)).trans c9
            have h8 := (hW.cell (World.block_lt_of_cell? _ _ c8)).trans c8
            rw [← natsI_len] at h9
            exact machineFrom1_any t hn b8 b9 aS (some ⟨gF, oF, none⟩) cS cF (ordT t) (by omega) _ (HWF.out _ _ (hSlt i hi) hx) (hnx i x hi hx) W h9 h8 (hIS.keep hW) (hIF.keep hW)))
        have hwf := gathM_wf (L := L) (t := t) (S := ordT t) (num := fun r => (ordT t).idxOf (t.fin r)) hL (by omega) (fun i x hi hx => by have := List.idxOf_lt_length_iff.2 (hnx i x hi hx); omega) (fun i x hi hx => HOT.out _ _ (hSlt i hi) hx)
        have HIM := Lib.hid (mach_infoT hwf)
        have HOM := Lib.hid (mach_ones (gathM L t (ordT t) fun r => (ordT t).idxOf (t.fin r)))
        have hlenM := Mch.cells_length hwf
        have HM := Lib.hid hM
        generalize gathM L t (ordT t) (fun r => (ordT t).idxOf (t.fin r)) = MM at *
        clear hM hIS hIF hok hEq hSlt hnx hwf
        go_wp2_with fail
        refine HGA.out.mono ?_
        rintro e w5 ⟨rfl, hb5⟩
        have hM5 := HM.out.call hb5
        have ht := (hM5.at 2 rfl).there 0 MM.cells.length (by simp only; rw [zero_len, hlenM]; omega)
        have hM2 := hM5.setAll 2 rfl (vs := MM.cells) (by rw [zero_len, hlenM])
        have HB := Lib.hid (hM2.at 2 rfl)
        have HM2 := Lib.hid hM2
        have HI5 : Hid ((Try.prog.info? 29).map (·.size) = some MM.cells.toArray.size) := HIM.out.trans (by rw [List.size_toArray])
        clear hM2 hM5 HGA HM hb5
        go_wp2_with ((with_reducible refine st_row ?_ 29 (.tmp 6) (.tmp 64) ?_ w.heap.size 0 MM.cells ?_ ?_ ht HIM.out HOM.out ?_); exact rfl; exact rfl; exact rfl; exact rfl)
        refine bodyPost_ret (v := .tuple #[.agg MM.cells.toArray, .int .i64 0]) (results_ct Try.results146 _ _ w.heap.size 29 MM.cells.toArray (0, 0) (.struct _) rfl HB.out Try.underlying29 rfl HI5.out) rfl ?_
        rw [HR.out]
        exact ⟨HM2.out.below, rfl⟩
end Go.Proofs.Yteagecoiijhflaa

/- (*group).machine: the machine of a word, of the program. -/
namespace Go.Proofs.Yteagecoiijhflaa
open Go.RowKit
set_option linter.unusedVariables false
set_option linter.unusedSimpArgs false

set_option maxHeartbeats 1000000 in
theorem all_any (v : Value) (w : World) : Calls Try.prog 145 #[v] w (Ret (.bool true) w) := by
  go_enter Try.func145, Try.ntmps145
  go_wp2
  go_ret
  exact ⟨rfl, Below.refl _ _⟩
theorem enters_all : Enters 145 := fun args w => by kernel_rfl
theorem secR_code {m : Mch} {g : Wd} {c : Int} (h : secR m anyB g = .error c) : c = 3 := by
  have : ∀ i c, bSt m anyB g i = .error c → c = 3 := by
    intro i
    induction i with
    | zero => intro c h; cases h
    | succ i ih =>
      intro c h
      rw [bSt] at h
      cases h1 : bSt m anyB g i with
      | error c' =>
        rw [h1] at h
        have h2 : (Except.error c' : Except Int (List Wd × List (List Nat))) = .error c := h
        simp only [Except.error.injEq] at h2
        rw [← h2]; exact ih _ h1
      | ok p =>
        obtain ⟨Q, N⟩ := p
        rw [h1] at h
        simp only [anyB, if_true] at h
        split at h
        · split at h
          · simp only [Except.error.injEq] at h; exact h.symm
          · cases h
        · cases h
  exact this _ c h
def outN (m : Mch) (h : Wd) : List Nat := (List.range m.l).map (ledX m h)
theorem outN_len (m : Mch) (h : Wd) : (outN m h).length = m.l := by simp [outN]
theorem outN_get {m : Mch} {h : Wd} {x : Nat} (hx : x < m.l) : (outN m h)[x]?.getD 0 = ledX m h x := by simp [outN, List.getElem?_map, List.getElem?_range hx]
/-- the rows of a table of numbers -/
theorem Mm.tabRows {B : Nat} {w0 w : World} {L : List (Nat × List Value × TypeId)} {G : List (Value × TypeId × List Value)} (h : Mm B w0 w L G) {v : Value} {rv : List Value} {R : List (List Nat)} {d : Nat} (hl : rv.length = R.length) (hv : (v, 26, rv) ∈ G) (hr : ∀ x ∈ rowG rv (R.map natsI), x ∈ G)
    (hd : ∀ r ∈ R, r.length = d) (hd1 : 1 ≤ d) (hn : 1 ≤ R.length) : ∃ gv cv, v = .slice (some ⟨gv, 0, none⟩) R.length cv ∧ ∀ q, q < R.length → ∃ g c, w.cell? ⟨gv, q, none⟩ = some (.slice (some ⟨g, 0, none⟩) d c) ∧ ∀ x, x < d → w.cell? ⟨g, x, none⟩ = some (.int .i64 (((R[q]?.getD [])[x]?.getD 0 : Nat) : Int)) := by
  have ho := h.own _ hv
  simp only at ho
  obtain ⟨gv, cv, e, -, -, hc⟩ := own_form ho (by omega)
  refine ⟨gv, cv, by rw [e, hl], fun q hq => ?_⟩
  have hq' : q < (R.map natsI).length := by simpa using hq
  have hrow := h.own _ (hr _ (mem_of_get (rowG_get (by simpa using hl) hq')))
  simp only at hrow
  have er : (R.map natsI)[q]?.getD [] = natsI (R[q]?.getD []) := by simp [List.getElem?_map, List.getElem?_eq_getElem hq]
  have hlen : (R[q]?.getD []).length = d := by rw [List.getElem?_eq_getElem hq, Option.getD_some]; exact hd _ (List.getElem_mem hq)
  rw [er] at hrow
  have hil : (i64s (natsI (R[q]?.getD []))).length = d := by simp [i64s, natsI_len, hlen]
  obtain ⟨g, c, e2, -, -, hc2⟩ := own_form hrow (by omega)
  refine ⟨g, c, ?_, fun x hx => ?_⟩
  · have := hc q (rv[q]?.getD undef) (by rw [List.getElem?_eq_getElem (by omega : q < rv.length)]; rfl)
    rw [this, e2, hil]
  · refine hc2 x _ ?_
    have hx' : x < (R[q]?.getD []).length := by omega
    simp only [i64s, natsI, List.getElem?_map, List.getElem?_eq_getElem hx', Option.map_some, Option.getD_some]
theorem Mm.readV {B : Nat} {w0 w : World} {L : List (Nat × List Value × TypeId)} {G : List (Value × TypeId × List Value)} (h : Mm B w0 w L G) {v : Value} {rq : List Value} {Q : List Wd} (hl : rq.length = Q.length) (hv : (v, 26, rq) ∈ G) (hr : ∀ x ∈ rowG rq Q, x ∈ G) {i : Nat} (hi : i < Q.length) :
    ∃ g c a d, v = .slice (some ⟨g, 0, none⟩) Q.length c ∧ rq[i]? = some (.slice a (Q[i]?.getD []).length d) ∧ w.cell? ⟨g, i, none⟩ = some (.slice a (Q[i]?.getD []).length d) ∧ IntsAt w a (Q[i]?.getD []) := by
  have ho := h.own _ hv
  simp only at ho
  obtain ⟨g, c, e, -, -, hc⟩ := own_form ho (by omega)
  have hrow : OwnI w B (rq[i]?.getD undef) (Q[i]?.getD []) := OwnI.of_row (h.own _ (hr _ (mem_of_get (rowG_get hl hi))))
  obtain ⟨a, d, e', hI⟩ := hrow.form
  have hq : rq[i]? = some (.slice a (Q[i]?.getD []).length d) := by
    rw [List.getElem?_eq_getElem (by omega : i < rq.length)] at e' ⊢
    rw [Option.getD_some] at e'
    rw [e']
  exact ⟨g, c, a, d, by rw [e, hl], hq, hc i _ hq, hI⟩
theorem mwR_ok {m : Mch} {g : Wd} {Q : List Wd} {N : List (List Nat)} (h : secR m anyB g = .ok (Q, N)) : mwR m g = mwT m.L (tblW m Q N) := by unfold mwR; rw [h]
theorem mwR_err {m : Mch} {g : Wd} {c : Int} (h : secR m anyB g = .error c) : mwR m g = none := by unfold mwR; rw [h]
theorem out_perm {o v : Value} {xs rO : List Value} {R : List Wd} {row : Wd} {X : List (Value × TypeId × List Value)} (hl : rO.length = R.length) :
    ((v, 2, i64s row) :: (o, 26, xs) :: (rowG rO R ++ X)).Perm ((o, 26, xs) :: (rowG (rO ++ [v]) (R ++ [row]) ++ X)) := by
  rw [rowG_snoc _ _ hl]
  refine (List.Perm.swap _ _ _).trans (List.Perm.cons _ ?_)
  rw [List.append_assoc]
  exact List.perm_middle.symm
theorem outs_take {m : Mch} {Q : List Wd} {i : Nat} (h : i < Q.length) : ((Q.take (i + 1)).map (outN m)).map natsI = ((Q.take i).map (outN m)).map natsI ++ [natsI (outN m (Q[i]?.getD []))] := by
  rw [List.take_succ_eq_append_getElem h, List.map_append, List.map_append, List.getElem?_eq_getElem h, Option.getD_some]; rfl
theorem outN_part (m : Mch) (h : Wd) (x : Nat) : natsI ((List.range (x + 1)).map (ledX m h)) = natsI ((List.range x).map (ledX m h)) ++ [(ledX m h x : Int)] := by
  rw [List.range_succ]; simp [natsI]

set_option maxRecDepth 100000 in
set_option maxHeartbeats 4000000 in
theorem machine_any (G : Nat) (m : Mch) (hwf : m.Wf) (hok : m.Ok) (a : Option Addr) (g : Wd) (c : Nat) (hg : GW m g) (hl : g.length ≤ 1000) (w : World) (hG : GrpR w G m) (hI : IntsAt w a g) :
    Calls Try.prog 116 #[.pointer (some ⟨G, 0, none⟩), .slice a g.length c] w (RetM (mwR m g) w) := by
  obtain ⟨i0, hi0, hz0, hz1, hz2⟩ := info_parts Try.info2
  obtain ⟨j0, hj0, hy0, hy1, hy2⟩ := info_parts Try.info26
  have h3 := hok.l_le
  have h2 := hok.l_ge
  have HOK := Lib.hid hok
  have HGW := Lib.hid hg
  have hM0 := (Mm.start w).alloc Try.zeroCells29 29
  have hb0 : Below w.heap.size w (w.alloc (.cells Try.zeroCells29 29)) := hM0.below
  have HGW0 := Lib.hid hG
  have HSE := Lib.hid (sections_any G m hwf hok anyB 145 enters_all #[] #[] a g c hg hl _ (hG.keep hb0) (hI.keep hb0) (fun W hW h a c hh hl hI => by
    have := all_any (.slice a h.length c) W
    simpa [anyB] using this))
  have HM0 := Lib.hid hM0
  clear hG hI hM0 hb0 hg
  go_enter Try.func116, Try.ntmps116
  go_wp2_with fail
  refine HSE.out.mono ?_
  intro e w1 hR
  cases hs : secR m anyB g with
  | error c =>
    rw [hs] at hR
    obtain ⟨rfl, hb1⟩ := hR
    obtain rfl := secR_code hs
    have HD := Lib.hid (mwR_err hs)
    have hM1 := HM0.out.call hb1
    have ht := (hM1.at 0 rfl).there 0 Try.zeroCells29.toList.length (by simp)
    have hM2 := hM1.setAll 0 rfl (vs := Try.zeroCells29.toList) rfl
    have HB := Lib.hid (hM2.at 0 rfl)
    have HM2 := Lib.hid hM2
    have HIZ : Hid ((Try.prog.info? 29).map (·.size) = some Try.zeroCells29.toList.length) := by show _ = _; rw [zero_len]; kernel_rfl
    have HOZ : Hid (∀ v ∈ Try.zeroCells29.toList, v.oneCell' = true) := zero_ones
    have HI5 : Hid ((Try.prog.info? 29).map (·.size) = some Try.zeroCells29.size) := by show _ = _; rw [HIZ.out, Array.length_toList]
    clear hM2 hM1 HSE hs HM0
    go_wp2_with ((with_reducible refine st_row ?_ 29 (.tmp 4) (.tmp 25) ?_ w.heap.size 0 Try.zeroCells29.toList ?_ ?_ ht HIZ.out HOZ.out ?_); exact rfl; exact rfl; exact rfl; exact rfl)
    refine bodyPost_ret (v := .tuple #[.agg Try.zeroCells29, .int .i64 3]) (results_ct Try.results116 _ _ w.heap.size 29 Try.zeroCells29 (0, 0) (.struct _) rfl HB.out Try.underlying29 rfl HI5.out) rfl ?_
    rw [HD.out]
    exact ⟨HM2.out.below, rfl⟩
  | ok p =>
    obtain ⟨Q, N⟩ := p
    rw [hs] at hR
    obtain ⟨v9, rq, v11, rn, rfl, hlq, hln, hMs⟩ := hR
    have HD := Lib.hid (mwR_ok hs)
    obtain ⟨hB, hNl⟩ := secR_ok hok hwf HGW.out hs
    have HB := Lib.hid hB
    have HNL := Lib.hid hNl
    have HLQ := Lib.hid hlq
    have HLN := Lib.hid hln
    have hq200 := hB.toQOk.many
    have hqp := hB.pos
    obtain ⟨g9, c9, rfl⟩ : ∃ g9 c9, v9 = .slice (some ⟨g9, 0, none⟩) Q.length c9 := by
      obtain ⟨g, c, _, _, e, _, _⟩ := hMs.readQ hlq (List.mem_cons_self ..) gS_rows (i := 0) (by omega)
      exact ⟨g, c, e⟩
    obtain ⟨g11, c11, rfl⟩ : ∃ g11 c11, v11 = .slice (some ⟨g11, 0, none⟩) Q.length c11 := by
      have ho := hMs.own _ (List.mem_cons_of_mem _ (List.mem_cons_self ..))
      simp only at ho
      obtain ⟨g, c, e, -, -, -⟩ := own_form ho (by omega)
      exact ⟨g, c, by rw [e, hln, hNl]⟩
    have hM1 : Mm w.heap.size w w1 [(w.heap.size, Try.zeroCells29.toList, 29)] (gS (.slice (some ⟨g9, 0, none⟩) Q.length c9) rq Q (.slice (some ⟨g11, 0, none⟩) Q.length c11) rn N) := by
      have h1 := HM0.out.call hMs.below
      have h2 := hMs.less (C := w.heap.size) (by simp)
      refine ⟨h1.below, h1.size, h1.blk, h1.dist, h2.own, fun x hx y hy => ?_, h2.gdist⟩
      rw [List.mem_singleton.1 hy]
      intro e
      have := (World.ownsRow.lt (hMs.own x hx) _ e).1
      simp at this
      omega
    have hM2 := (hM1.alloc #[.slice (some ⟨g11, 0, none⟩) Q.length c11, .slice none 0 0] 168).addNil 26
    have HM2 := Lib.hid hM2
    clear hMs hM1 hM2 HSE hs HM0 hlq hln hB
    go_wp2_with fail
    have HM3 : Hid (Mm w.heap.size w (w1.alloc (.cells #[.slice (some ⟨g11, 0, none⟩) Q.length c11, .slice none 0 0] 168)) [(w1.heap.size, [.slice (some ⟨g11, 0, none⟩) Q.length c11, .slice none 0 0], 168), (w.heap.size, Try.zeroCells29.toList, 29)]
      ((.slice none 0 0, 26, []) :: (rowG [] (((Q.take 0).map (outN m)).map natsI) ++ gS (.slice (some ⟨g9, 0, none⟩) Q.length c9) rq Q (.slice (some ⟨g11, 0, none⟩) Q.length c11) rn N))) := HM2.out
    have HGC : Hid (∀ W L G0, Mm w.heap.size w W L G0 → GrpR W G m) := fun W L G0 hM => HGW0.out.keep hM.below
    clear HM2
    generalize w1.alloc (.cells #[.slice (some ⟨g11, 0, none⟩) Q.length c11, .slice none 0 0] 168) = W3 at *
    generalize w1.heap.size = bT at *
    go_loopw [32] (fun iv wr => ∃ (i : Nat) (vO : Value) (rO : List Value), i ≤ Q.length ∧ iv = .int .i64 (i : Int) ∧ Hid (rO.length = i) ∧ Mm w.heap.size w wr [(bT, [.slice (some ⟨g11, 0, none⟩) Q.length c11, vO], 168), (w.heap.size, Try.zeroCells29.toList, 29)]
      ((vO, 26, rO) :: (rowG rO (((Q.take i).map (outN m)).map natsI) ++ gS (.slice (some ⟨g9, 0, none⟩) Q.length c9) rq Q (.slice (some ⟨g11, 0, none⟩) Q.length c11) rn N))) (fun i _ => Q.length - (intOf i).toNat)
    case atStart => exact ⟨0, .slice none 0 0, [], Nat.zero_le _, rfl, rfl, HM3.out⟩
    case round =>
      clear HM3
      obtain ⟨i, vO, rO, hi, rfl, HL, hM⟩ := hrel
      have ei : IntKind.i64.wrap ((i : Int) + 1) = (i : Int) + 1 := IntWalk.i64_in _ (by omega)
      by_cases hlt : i < Q.length
      · obtain ⟨g9', c9', ar, dr, e1, hrq, c1, -⟩ := hM.readV HLQ.out (List.mem_cons_of_mem _ (List.mem_append_right _ (List.mem_cons_self ..))) (fun x hx => List.mem_cons_of_mem _ (List.mem_append_right _ (gS_rows x hx))) hlt
        injection e1 with e1 _ e2
        injection e1 with e1
        injection e1 with e1
        subst e1 e2
        have cl := (HGC.out _ _ _ hM).mach.l
        rw [HOK.out.L_eq] at cl
        have i1 : (0 : Int) ≤ (i : Int) := by omega
        have i2 : (i : Int) < (Q.length : Int) := by omega
        have HHW := Lib.hid (HB.out.toQOk.at hlt)
        have HTK := Lib.hid (outs_take (m := m) hlt)
        have HRD : Hid (∀ W L X, Mm w.heap.size w W L (X ++ ((vO, 26, rO) :: (rowG rO (((Q.take i).map (outN m)).map natsI) ++ gS (.slice (some ⟨g9, 0, none⟩) Q.length c9) rq Q (.slice (some ⟨g11, 0, none⟩) Q.length c11) rn N))) → IntsAt W ar (Q[i]?.getD [])) := fun W L X h => by
          obtain ⟨g9', c9', a, d, -, hrq', -, hI⟩ := h.readV HLQ.out (List.mem_append_right _ (List.mem_cons_of_mem _ (List.mem_append_right _ (List.mem_cons_self ..)))) (fun x hx => List.mem_append_right _ (List.mem_cons_of_mem _ (List.mem_append_right _ (gS_rows x hx)))) hlt
          rw [hrq] at hrq'
          injection hrq' with hrq'
          injection hrq' with h1
          rw [h1]; exact hI
        have HRL : Hid (rO.length = (((Q.take i).map (outN m)).map natsI).length) := by show _ = _; rw [HL.out, List.length_map, List.length_map, List.length_take]; omega
        generalize ((Q.take i).map (outN m)).map natsI = R at *
        generalize Q[i]?.getD [] = hh at *
        have hM5 := hM.addNil 2
        clear hrq
        go_wp2_with fail
        clear cl c1 hM
        go_loopw [12, 41] (fun v12 xv wi => ∃ (x : Nat), x ≤ m.l ∧ xv = .int .i64 (x : Int) ∧ Mm w.heap.size w wi [(bT, [.slice (some ⟨g11, 0, none⟩) Q.length c11, vO], 168), (w.heap.size, Try.zeroCells29.toList, 29)]
          ((v12, 2, i64s (natsI ((List.range x).map (ledX m hh)))) :: (vO, 26, rO) :: (rowG rO (R) ++ gS (.slice (some ⟨g9, 0, none⟩) Q.length c9) rq Q (.slice (some ⟨g11, 0, none⟩) Q.length c11) rn N))) (fun _ i _ => m.l - (intOf i).toNat)
        case atStart => exact ⟨0, Nat.zero_le _, rfl, hM5⟩
        case round =>
          clear hM5
          obtain ⟨x, hx, rfl, hM⟩ := hrel
          have ex : IntKind.i64.wrap ((x : Int) + 1) = (x : Int) + 1 := IntWalk.i64_in _ (by omega)
          by_cases hxl : x < m.l
          · have HAT := Lib.hid (at_any G m hwf HOK.out ar hh dr HHW.out.1 (by have := HHW.out.2; omega) x hxl wr (HGC.out _ _ _ hM) (HRD.out wr _ [_] hM))
            have HPT := Lib.hid (outN_part m hh x)
            have j1 : (0 : Int) ≤ (x : Int) := by omega
            have j2 : (x : Int) < (m.l : Int) := by omega
            have HLX : Hid ((i64s (natsI ((List.range x).map (ledX m hh)))).length ≤ 1000000) := by show _ ≤ _; simp [i64s, natsI]; omega
            go_wp2_with fail
            refine HAT.out.mono ?_
            rintro e w5 ⟨v15, rfl, hb5, hO5⟩
            have hM5 := hM.call hb5
            clear HAT hM hb5 hO5
            go_wp2_with (at_builtin; refine Mm.append rfl (.tmp 51) (.tmp 53) 26 rfl hM5 0 rfl Try.underlying26 hi0 hz0 hz1 hz2 rfl rfl rfl rfl HLX.out (by omega) ?_)
            intro g6 c6 w6 hM6
            (try simp only [List.set_cons_zero] at hM6)
            have e6 : i64s (natsI ((List.range (x + 1)).map (ledX m hh))) = i64s (natsI ((List.range x).map (ledX m hh))) ++ [Value.int .i64 (ledX m hh x : Int)] := by rw [HPT.out]; simp [i64s]
            rw [← e6] at hM6
            have HM6 := Lib.hid hM6
            clear hM5 hM6 e6
            go_wp2_with fail
            go_roundw
            case rel => exact ⟨x + 1, by omega, by go_num, HM6.out⟩
            case measure => simp [intOf] <;> omega
          · have hx' : x = m.l := by omega
            subst hx'
            have j2 : ¬ ((m.l : Int) < (m.l : Int)) := by omega
            have hrO : rO.length ≤ 1000000 := by rw [HL.out]; omega
            obtain ⟨g12, c12, rfl⟩ : ∃ g12 c12, u12 = .slice (some ⟨g12, 0, none⟩) m.l c12 := by
              have ho := hM.own _ (List.mem_cons_self ..)
              simp only at ho
              obtain ⟨g, c, e, -, -, -⟩ := own_form ho (by simp [i64s, natsI]; omega)
              exact ⟨g, c, by rw [e]; simp [i64s, natsI]⟩
            have ct := (hM.at 0 rfl).cell' (i := 1) rfl
            go_wp2_with (at_builtin; refine Mm.append rfl (.tmp 60) (.tmp 62) 35 rfl hM 1 rfl Try.underlying35 hj0 hy0 hy1 hy2 rfl rfl rfl rfl hrO (by omega) ?_)
            intro g7 c7 w7 hM7
            (try simp only [List.set_cons_zero, List.set_cons_succ] at hM7)
            have ct7 := (hM7.at 0 rfl).cell' (i := 1) rfl
            have ft7 := (hM7.at 0 rfl).free 1
            have hM8 := hM7.setCell 0 rfl 1 (.slice (some ⟨g7, 0, none⟩) (rO.length + 1) c7)
            (try simp only [List.set_cons_zero, List.set_cons_succ] at hM8)
            have HM8 : Hid (Mm w.heap.size w (w7.setCell ⟨bT, 1, none⟩ (.slice (some ⟨g7, 0, none⟩) (rO.length + 1) c7)) [(bT, [.slice (some ⟨g11, 0, none⟩) Q.length c11, .slice (some ⟨g7, 0, none⟩) (rO.length + 1) c7], 168), (w.heap.size, Try.zeroCells29.toList, 29)]
              ((.slice (some ⟨g7, 0, none⟩) (rO.length + 1) c7, 26, rO ++ [.slice (some ⟨g12, 0, none⟩) m.l c12]) :: (rowG (rO ++ [.slice (some ⟨g12, 0, none⟩) m.l c12]) (((Q.take (i + 1)).map (outN m)).map natsI) ++ gS (.slice (some ⟨g9, 0, none⟩) Q.length c9) rq Q (.slice (some ⟨g11, 0, none⟩) Q.length c11) rn N))) := by
              show Mm _ _ _ _ _
              rw [HTK.out]
              exact hM8.permG (out_perm HRL.out)
            have HL8 : Hid ((rO ++ [Value.slice (some ⟨g12, 0, none⟩) m.l c12]).length = i + 1) := by show _ = _; rw [List.length_append, HL.out]; rfl
            clear hM hM7 hM8 ct
            go_wp2_with fail
            go_roundw
            case rel => exact ⟨i + 1, _, _, by omega, by go_num, HL8.out, HM8.out⟩
            case measure => simp [intOf] <;> omega
      · have hi' : i = Q.length := by omega
        subst hi'
        rw [List.take_length] at hM
        have hlO : rO.length = (Q.map (outN m)).length := by rw [HL.out]; simp
        have hwT := tblW_wf HB.out HNL.out
        obtain ⟨gO, cO, eO, hO⟩ := hM.tabRows hlO (List.mem_cons_self ..) (fun x hx => List.mem_cons_of_mem _ (List.mem_append_left _ hx)) (fun r hr => by obtain ⟨h, -, rfl⟩ := List.mem_map.1 hr; exact outN_len m h) (by omega) (by simp; omega)
        obtain ⟨gN, cN, eN, hN⟩ := hM.tabRows (d := m.l) HLN.out (List.mem_cons_of_mem _ (List.mem_append_right _ (List.mem_cons_of_mem _ (List.mem_cons_self ..)))) (fun x hx => List.mem_cons_of_mem _ (List.mem_append_right _ (List.mem_cons_of_mem _ (List.mem_cons_of_mem _ (List.mem_append_right _ hx))))) (fun r hr => (HB.out.row r hr).1) (by omega) (by rw [HNL.out]; omega)
        have hT : TabG wr bT (tblW m Q N) := by
          have c0 := (hM.at 0 rfl).cell' (i := 0) rfl
          have c1 := (hM.at 0 rfl).cell' (i := 1) rfl
          rw [eO, List.length_map] at c1
          rw [eN, HNL.out] at c0
          refine ⟨gN, cN, gO, cO, c0, c1, fun q hq => ?_, fun q hq => ?_⟩
          · exact hN q (by rw [HNL.out]; exact hq)
          · obtain ⟨g, c, e, f⟩ := hO q (by rw [List.length_map]; exact hq)
            refine ⟨g, c, e, fun x hx => ?_⟩
            have := f x hx
            have hq' : q < Q.length := hq
            rw [List.getElem?_map, List.getElem?_eq_getElem hq', Option.map_some, Option.getD_some, outN_get hx] at this
            simp only [tblW, List.getElem?_eq_getElem hq', Option.getD_some]
            exact this
        have HMF := Lib.hid (machineFrom_any (tblW m Q N) hwT (by show Q.length ≤ 1000; omega) (by show 1 ≤ Q.length; omega) h3 bT m.L hwf.lb (fun q x hq hx => by have := tblW_ot HOK.out hwf HB.out hq hx; omega) wr hT)
        have hwf2 : ∀ M, mwT m.L (tblW m Q N) = some M → M.Wf := fun M hM => mwT_wf HOK.out hwf HGW.out (HD.out.trans hM)
        have HWF2 := Lib.hid hwf2
        have cl := (HGC.out _ _ _ hM).mach.l
        have j2 : ¬ ((Q.length : Int) < (Q.length : Int)) := by omega
        have HM := Lib.hid hM
        clear hM hT hwT hN hO eO eN hlO hwf2
        go_wp2_with fail
        refine HMF.out.mono ?_
        rintro e w5 ⟨hb5, hR5⟩
        have hM5 := HM.out.call hb5
        have HD2 := Lib.hid HD.out
        cases hmt : mwT m.L (tblW m Q N) with
        | none =>
          rw [hmt] at hR5 HD2
          obtain rfl := hR5
          have ht := (hM5.at 1 rfl).there 0 Try.zeroCells29.toList.length (by simp)
          have hM2 := hM5.setAll 1 rfl (vs := Try.zeroCells29.toList) rfl
          have HBK := Lib.hid (hM2.at 1 rfl)
          have HM2 := Lib.hid hM2
          have HIZ : Hid ((Try.prog.info? 29).map (·.size) = some Try.zeroCells29.toList.length) := by show _ = _; rw [zero_len]; kernel_rfl
          have HOZ : Hid (∀ v ∈ Try.zeroCells29.toList, v.oneCell' = true) := zero_ones
          have HI5 : Hid ((Try.prog.info? 29).map (·.size) = some Try.zeroCells29.size) := by show _ = _; rw [HIZ.out, Array.length_toList]
          clear hM2 hM5 HMF HM hb5 hmt cl
          go_wp2_with ((with_reducible refine st_row ?_ 29 (.tmp 4) (.tmp 74) ?_ w.heap.size 0 Try.zeroCells29.toList ?_ ?_ ht HIZ.out HOZ.out ?_); exact rfl; exact rfl; exact rfl; exact rfl)
          refine bodyPost_ret (v := .tuple #[.agg Try.zeroCells29, .int .i64 3]) (results_ct Try.results116 _ _ w.heap.size 29 Try.zeroCells29 (0, 0) (.struct _) rfl HBK.out Try.underlying29 rfl HI5.out) rfl ?_
          rw [HD2.out]
          exact ⟨HM2.out.below, rfl⟩
        | some M =>
          rw [hmt] at hR5 HD2
          obtain rfl := hR5
          have hwM := HWF2.out M hmt
          have HIM := Lib.hid (mach_infoT hwM)
          have HOM := Lib.hid (mach_ones M)
          have ht := (hM5.at 1 rfl).there 0 M.cells.length (by simp only; rw [zero_len, Mch.cells_length hwM]; omega)
          have hM2 := hM5.setAll 1 rfl (vs := M.cells) (by rw [zero_len, Mch.cells_length hwM])
          have HBK := Lib.hid (hM2.at 1 rfl)
          have HM2 := Lib.hid hM2
          have HI5 : Hid ((Try.prog.info? 29).map (·.size) = some M.cells.toArray.size) := HIM.out.trans (by rw [List.size_toArray])
          clear hM2 hM5 HMF HM hb5 hmt cl hwM
          go_wp2_with ((with_reducible refine st_row ?_ 29 (.tmp 4) (.tmp 74) ?_ w.heap.size 0 M.cells ?_ ?_ ht HIM.out HOM.out ?_); exact rfl; exact rfl; exact rfl; exact rfl)
          refine bodyPost_ret (v := .tuple #[.agg M.cells.toArray, .int .i64 0]) (results_ct Try.results116 _ _ w.heap.size 29 M.cells.toArray (0, 0) (.struct _) rfl HBK.out Try.underlying29 rfl HI5.out) rfl ?_
          rw [HD2.out]
          exact ⟨HM2.out.below, rfl⟩
end Go.Proofs.Yteagecoiijhflaa
