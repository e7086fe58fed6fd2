/- Words of a level that are such; BoundaryWords of both sides. -/
import Derived.Test.YtmacnofkpdikiaaV3
import Derived.Test.YtmacnofkpdikiaaQ2
namespace Go.Proofs.Ytmacnofkpdikiaa
open Go.RowKit
set_option linter.unusedVariables false
set_option linter.unusedSimpArgs false

/-- the numbers below P that p lets in -/
def whereL (p : Nat → Bool) (k : Nat) : List Int := ((List.range k).filter p).map fun i : Nat => (i : Int)
theorem whereL_succ (p : Nat → Bool) (k : Nat) : whereL p (k + 1) = whereL p k ++ if p k then [(k : Int)] else [] := by
  simp only [whereL, List.range_succ, List.filter_append, List.map_append, List.filter_cons, List.filter_nil]
  cases p k <;> rfl
theorem whereL_len (p : Nat → Bool) (k : Nat) : (whereL p k).length ≤ k := by
  simp only [whereL, List.length_map]
  exact Nat.le_trans (List.length_filter_le _ _) (by simp)
theorem whereL_congr {p p' : Nat → Bool} {k : Nat} (h : ∀ i, i < k → p i = p' i) : whereL p k = whereL p' k := by
  simp only [whereL]
  congr 1
  exact List.filter_congr fun x hx => h x (by simpa using hx)

/-- a whole row read in an operation of a drawn region -/
theorem run_ld {b o T : Nat} {D : List Value} {d : TypeDesc} (hu : Try.prog.underlying T = some d) (hd : d.isRow = true) (hi : (Try.prog.info? T).map (·.size) = some D.length) (x : Operand) {a : Act} {op : Oper} (ho : op.op = .load T x) (hx : a.eval x = .pointer (some ⟨b, o, none⟩)) {w : World} (h : w.rangeAt b o D) :
    (execOp a.eval op).run Try.prog w = .ok (.value (.agg D.toArray)) w := by
  unfold execOp
  simp only [ho, hx, Instr.loadAt, Instr.sureAddr, Sem.run_bind, Sem.run_pure, Result.andThen_ok, run_loadVar_mid w b o T D d h hu hd hi]
theorem mach_info {m : Mch} (hwf : m.Wf) : (Try.prog.info? 44).map (·.size) = some m.cells.length := by rw [Mch.cells_length hwf]; kernel_rfl
theorem own_form {w : World} {B E n : Nat} {v : Value} {xs : List Value} (h : w.ownsRow B E 1 v n xs) (hn : 0 < n) : ∃ g c, v = .slice (some ⟨g, 0, none⟩) n c ∧ g < w.heap.size ∧ B ≤ g ∧ ∀ i u, xs[i]? = some u → w.cell? ⟨g, i, none⟩ = some u := by
  rcases h.2 with ⟨_, h0⟩ | ⟨g, cap, cur, rfl, h1, h2, h3, h4, h5, h6⟩
  · omega
  · refine ⟨g, cap, rfl, (Array.getElem?_eq_some_iff.1 h2).1, h1, fun i u hi => ?_⟩
    rw [cell_of_row w g i _ _ _ h2]
    have := h6 ▸ hi
    rw [List.getElem?_take] at this
    split at this
    · simpa using this
    · cases this

set_option maxRecDepth 100000 in
set_option maxHeartbeats 1000000 in
theorem numbersWhere_any (b o : Nat) (m : Mch) (hwf : m.Wf) (hok : m.Ok) (n : Nat) (hn : n + m.l ≤ 7) (k : Nat) (hent : Enters k) (cap : Array Value) (p : Nat → Bool) (w : World) (hm : MAt w b o m)
    (hf : ∀ W, Below w.heap.size w W → ∀ i, i < m.l ^ n → Calls Try.prog k (#[.string (txt (digs m.l n i))] ++ cap) W (Ret (.bool (p i)) W)) :
    Calls Try.prog 85 #[.pointer (some ⟨b, o, none⟩), .int .i64 n, .func (.func k) #[] cap] w fun e w' => ∃ v, e = .returned v ∧ Below w.heap.size w w' ∧ OwnI w' w.heap.size v (whereL p (m.l ^ n)) := by
  obtain ⟨i0, hi, hz0, hz1, hz2⟩ := info_parts Try.info2
  have hent' : ∀ args w, Sem.run Try.prog (callFunc k args) w = .ok (.enter k args) w := hent
  have HF := Lib.hid hf
  have hl2 := hok.l_ge
  have hl3 := hok.l_le
  have hp := pow_level hl2 hl3 hn
  have hp0 : 0 < m.l ^ n := Nat.pow_pos (by omega)
  have hcl : w.cell? ⟨b, o, none⟩ = some (.int .i64 (m.l : Int)) := by rw [← hok.L_eq]; exact hm.l
  clear hf hent
  go_enter Try.func85, Try.ntmps85
  go_wp2_with fail
  refine (level_any m.l n hl2 hl3 hn _).mono ?_
  rintro e w1 ⟨v1, rfl, hb1, hS⟩
  obtain ⟨P, hP⟩ : ∃ P, P = m.l ^ n := ⟨_, rfl⟩
  rw [← hP] at hp hp0 hS HF
  have HP := Lib.hid hP
  clear hP
  obtain ⟨g, c, rfl, hg1, hg2, hgc⟩ := own_form hS hp0
  have HC := Lib.hid hgc
  have hM0 := (Mm.start w1).addNil 2
  clear hS hgc hcl
  go_wp2_with fail
  go_loopw [7, 17] (fun v i wr => ∃ j : Nat, j ≤ P ∧ i = .int .i64 j ∧ Mm w1.heap.size w1 wr [] [(v, 2, i64s (whereL p j))]) (fun _ i _ => P - (intOf i).toNat)
  case atStart => exact ⟨0, Nat.zero_le _, rfl, hM0⟩
  case round =>
    clear hM0
    obtain ⟨j, hj, rfl, hM⟩ := hrel
    by_cases hlt : j < P
    · have hc := HC.out j _ (strs_get hlt)
      rw [← hM.below.cell (p := ⟨g, j, none⟩) hg1] at hc
      have i1 : (0 : Int) ≤ (j : Int) := by omega
      have i2 : (j : Int) < (P : Int) := by omega
      have HCALL := Lib.hid (HF.out wr (hb1.trans (hM.below.mono hb1.size)) j hlt)
      have HS := Lib.hid (whereL_succ p j)
      have hwl := whereL_len p j
      have hil : (i64s (whereL p j)).length ≤ 1000000 := by simp only [i64s, List.length_map]; omega
      go_wp2_with fail
      refine HCALL.out.mono ?_
      rintro e w2 ⟨rfl, hb2⟩
      have hM2 := hM.call hb2
      clear hM HCALL hc
      cases hpj : p j
      · rw [hpj] at HS
        simp only [Bool.false_eq_true, if_false, List.append_nil] at HS
        rw [← HS.out] at hM2
        clear hpj
        go_wp2_with fail
        go_roundw
        case rel => exact ⟨j + 1, by omega, by go_num, hM2⟩
        case measure => simp [intOf]; omega
      · rw [hpj] at HS
        simp only [if_true] at HS
        clear hpj
        go_wp2_with (at_builtin; refine Mm.append rfl (.tmp 25) (.tmp 27) 39 rfl hM2 0 rfl Try.underlying39 hi hz0 hz1 hz2 rfl rfl rfl rfl (by omega) (by omega) ?_)
        intro g' cap' w3 hM3
        have HM3 : Hid (Mm w1.heap.size w1 w3 [] [(.slice (some ⟨g', 0, none⟩) ((i64s (whereL p j)).length + 1) cap', 2, i64s (whereL p (j + 1)))]) := by
          rw [HS.out]; show Mm _ _ _ _ _; simpa [i64s] using hM3
        clear hM2 hM3
        go_wp2_with fail
        go_roundw
        case rel => exact ⟨j + 1, by omega, by go_num, HM3.out⟩
        case measure => simp [intOf]; omega
    · have hj' : j = P := by omega
      subst hj'
      have hb := hb1.trans (hM.below.mono hb1.size)
      have ho : Hid (OwnI wr w1.heap.size u7 (whereL p j)) := by
        have := hM.own _ (List.mem_cons_self ..)
        show World.ownsRow _ _ _ _ _ _ _
        simpa [i64s] using this
      clear hM
      go_wp2_with fail
      go_ret
      exact ⟨_, rfl, hb, by rw [← HP.out]; exact ho.out.less hb1.size⟩

/-! BoundaryWords -/
def bwP (m : Mch) (n k : Nat) : Bool := (List.range m.s).any fun q => !trivB m (wsec m n q k)
theorem any_upto_succ (f : Nat → Bool) (q : Nat) : ((List.range (q + 1)).any f) = (((List.range q).any f) || f q) := by simp [List.range_succ]
theorem any_hit {f : Nat → Bool} {q n : Nat} (hq : q < n) (h : f q = true) : (List.range n).any f = true := List.any_eq_true.2 ⟨q, by simpa using hq, h⟩
theorem enters_bw : Enters 86 := fun args w => by kernel_rfl

set_option maxRecDepth 100000 in
set_option maxHeartbeats 1000000 in
theorem bw1_any (b : Nat) (m : Mch) (hwf : m.Wf) (hok : m.Ok) (n k : Nat) (hn : n ≤ 40) (c g : Nat) (w : World) (hm : MAt w b 0 m) (hc : w.cell? ⟨c, 0, none⟩ = some (.slice (some ⟨g, 0, none⟩) m.s m.s)) (hB : Blk w g (bvs m.s (trivB m)) 4) :
    Calls Try.prog 86 #[.string (txt (digs m.l n k)), .pointer (some ⟨b, 0, none⟩), .pointer (some ⟨c, 0, none⟩)] w (Ret (.bool (bwP m n k)) w) := by
  have hcw : c < w.heap.size := World.block_lt_of_cell? w _ hc
  have hbw : b < w.heap.size := World.block_lt_of_cell? w ⟨b, 0, none⟩ hm.l
  have hs16 := hok.s_le
  have hcs : w.cell? ⟨b, 1, none⟩ = some (.int .i64 (m.s : Int)) := by rw [← hok.S_eq]; exact hm.s
  have HL := Lib.hid (word_lets hok n k)
  have HT := Lib.hid (word_lts hok n k)
  have HSZ : Hid ((txt (digs m.l n k)).size ≤ 40) := by show _ ≤ _; rw [txt_size, digs_length]; exact hn
  have HWS : Hid (∀ q, (runL m q (digs m.l n k)).2 = wsec m n q k) := fun q => rfl
  have HBW : Hid (bwP m n k = (List.range m.s).any fun q => !trivB m (wsec m n q k)) := rfl
  go_enter Try.func86, Try.ntmps86
  generalize txt (digs m.l n k) = t at *
  go_wp2_with fail
  go_loopw [10] (fun i wr => ∃ q : Nat, q ≤ m.s ∧ i = .int .i64 q ∧ Below w.heap.size w wr ∧ Hid ((List.range q).any (fun q => !trivB m (wsec m n q k)) = false)) (fun i _ => m.s - (intOf i).toNat)
  case atStart => exact ⟨0, Nat.zero_le _, rfl, Below.refl _ _, rfl⟩
  case round =>
    obtain ⟨q, hq, rfl, hb, HA⟩ := hrel
    by_cases hlt : q < m.s
    · have hmr := hm.below hb hbw
      go_wp2_with fail
      refine (lead_any b 0 m hwf hok q hlt t HL.out HSZ.out _ hmr).mono ?_
      rintro e w1 ⟨rfl, hb1⟩
      rw [HT.out, HWS.out]
      have hbb := hb.trans (hb1.mono hb.size)
      have hc1 := (hbb.cell (p := ⟨c, 0, none⟩) hcw).trans hc
      have hr := wsec_lt hok hwf hlt n k
      have hB1 := (hB.keep hbb).cell' (bvs_get (trivB m) hr)
      have HX := Lib.hid (any_upto_succ (fun q => !trivB m (wsec m n q k)) q)
      rw [HA.out] at HX
      have HY : Hid ((!trivB m (wsec m n q k)) = true → (List.range m.s).any (fun q => !trivB m (wsec m n q k)) = true) := fun h => any_hit hlt h
      clear hmr
      generalize (runL m q (digs m.l n k)).1 = o1 at *
      generalize wsec m n q k = r at *
      have i1 : (0 : Int) ≤ (r : Int) := by omega
      have i2 : (r : Int) < (m.s : Int) := by omega
      cases ht : trivB m r
      · have HF := Lib.hid (HY.out (by rw [ht]; rfl))
        rw [ht] at hB1
        clear ht hc
        go_wp2_with fail
        go_ret
        exact ⟨ret_bool (by rw [HBW.out, HF.out]), hbb⟩
      · rw [ht] at hB1 HX
        clear ht hc
        go_wp2_with fail
        go_roundw
        case rel => exact ⟨q + 1, by omega, by go_num, hbb, by show _ = _; rw [HX.out]; rfl⟩
        case measure => simp [intOf]; omega
    · have hq' : q = m.s := by omega
      subst hq'
      go_wp2_with fail
      go_ret
      exact ⟨ret_bool (by rw [HBW.out, HA.out]), hb⟩

def bwL (m : Mch) (n : Int) : List Int := if levC m n = 0 then whereL (bwP m n.toNat) (m.l ^ n.toNat) else []

set_option maxRecDepth 100000 in
set_option maxHeartbeats 1000000 in
theorem implBoundaryWords_any (m : Mch) (hwf : m.Wf) (n : Int) (w : World) :
    Calls Try.prog 40 #[.agg m.cells.toArray, .int .i64 n] w (RetI (bwL m n) (levC m n) w) := by
  have hm := MAt.boxed w m 44
  have hb0 := boxedBelow w m.cells.toArray 44
  have hmf : ∀ (fn : Fn) (first cap : Array Value) (w : World), (Instr.makeFunc fn first cap).run Try.prog w = .ok (.func fn first cap) w := fun _ _ _ _ => rfl
  have HR := Lib.hid (levC_range m n)
  go_enter Try.func40, Try.ntmps40
  go_wp2_with ((with_reducible refine ld_mach ?_ (.tmp 2) ?_ (w.heap.size) (0) ?_ m hm hwf ?_); exact rfl; exact rfl; exact rfl)
  refine (levelCode_any m hwf n _).mono ?_
  rintro e w1 ⟨rfl, hb1⟩
  have hm1 := hm.keep hb1 hwf
  have hbb1 := hb0.trans (hb1.mono hb0.size)
  by_cases c0 : levC m n = 0
  · obtain ⟨hok, j, rfl, hj, hj5⟩ := levC_zero c0
    have HL : Hid (bwL m j = whereL (bwP m j) (m.l ^ j)) := by show _ = _; rw [bwL, if_pos c0]; simp
    have HC := Lib.hid c0
    rw [c0]
    clear c0
    go_wp2_with fail
    refine (table_any w.heap.size 0 m hwf hok _ hm1).mono ?_
    rintro e w2 ⟨T, rfl, hb2, hT⟩
    have hR := hT.reads hok.s_pos
    have hm2 := hm1.keep hb2 hwf
    have hbb2 := hbb1.trans (hb2.mono hbb1.size)
    go_wp2_with fail
    refine (tableTrivial_any T m hwf hok _ hR).mono ?_
    rintro e w3 ⟨g, rfl, hb3, hB⟩
    have hm3 := hm2.keep hb3 hwf
    have hbb3 := hbb2.trans (hb3.mono hbb2.size)
    have hm4 := hm3.alloc (World.block_lt_of_cell? w3 ⟨w.heap.size, 0, none⟩ hm3.l) (.cells #[.slice (some ⟨g, 0, none⟩) m.s m.s] 94)
    have hB4 := hB.alloc (.cells #[.slice (some ⟨g, 0, none⟩) m.s m.s] 94)
    have hbb4 := hbb3.alloc hbb3.size (.cells #[.slice (some ⟨g, 0, none⟩) m.s m.s] 94)
    have hc4 : (w3.alloc (.cells #[.slice (some ⟨g, 0, none⟩) m.s m.s] 94)).cell? ⟨w3.heap.size, 0, none⟩ = some (.slice (some ⟨g, 0, none⟩) m.s m.s) := (Blk.new w3 #[.slice (some ⟨g, 0, none⟩) m.s m.s] 94).cell' rfl
    clear hR hT hm1 hm2 hm3 hB hm
    go_wp2_with fail
    generalize w3.alloc (.cells #[.slice (some ⟨g, 0, none⟩) m.s m.s] 94) = w4 at *
    refine (numbersWhere_any w.heap.size 0 m hwf hok j hj 86 enters_bw #[.pointer (some ⟨w.heap.size, 0, none⟩), .pointer (some ⟨w3.heap.size, 0, none⟩)] (bwP m j) w4 hm4 (fun W hW i hi =>
      bw1_any w.heap.size m hwf hok j i (by omega) w3.heap.size g W (hm4.keep hW hwf) ((hW.cell (p := ⟨w3.heap.size, 0, none⟩) (World.block_lt_of_cell? w4 _ hc4)).trans hc4) (hB4.keep hW))).mono ?_
    rintro e w5 ⟨v, rfl, hb5, hO⟩
    have HB := Lib.hid (hbb4.trans (hb5.mono hbb4.size))
    have HO := Lib.hid (hO.less (C := w.heap.size) hbb4.size)
    clear hO hc4 hmf
    go_wp2_with fail
    go_ret2
    rw [HL.out, HC.out]
    exact ⟨_, rfl, HB.out, HO.out⟩
  · have HL : Hid (bwL m n = []) := by show _ = _; rw [bwL, if_neg c0]
    have c1 : (levC m n != 0) = true := by simpa using c0
    clear c0
    generalize hc : levC m n = c at *
    clear hc
    go_wp2_with fail
    go_ret2
    rw [HL.out]
    exact ⟨_, rfl, hbb1, OwnI.nil _ _⟩
end Go.Proofs.Ytmacnofkpdikiaa
