import Derived.Test.YteagecoiijhflaaYBall18
/- l02Machine: the machine of a word, of the reference. -/
namespace Go.Proofs.Yteagecoiijhflaa
open Go.RowKit
set_option linter.unusedVariables false
set_option linter.unusedSimpArgs false

def ivs (n : Nat) (f : Nat → Int) : List Value := (List.range n).map fun r => .int .i64 (f r)
theorem ivs_len (n : Nat) (f : Nat → Int) : (ivs n f).length = n := by simp [ivs]
theorem ivs_get {n : Nat} (f : Nat → Int) {q : Nat} (h : q < n) : (ivs n f)[q]? = some (.int .i64 (f q)) := by simp [ivs, h]
theorem ivs_congr {n : Nat} {f g : Nat → Int} (h : ∀ q, q < n → f q = g q) : ivs n f = ivs n g := List.map_congr_left fun q hq => by rw [h q (by simpa using hq)]
theorem ivs_set {n : Nat} (f : Nat → Int) {j : Nat} (v : Int) (h : j < n) : (ivs n f).set j (.int .i64 v) = ivs n (fun q => if q = j then v else f q) := by
  apply List.ext_getElem?
  intro i
  by_cases hi : i < n
  · rw [ivs_get _ hi]
    by_cases e : i = j
    · subst e; rw [List.getElem?_set_self (by rw [ivs_len]; exact hi), if_pos rfl]
    · rw [List.getElem?_set_ne (Ne.symm e), ivs_get _ hi, if_neg e]
  · rw [List.getElem?_eq_none (by rw [List.length_set, ivs_len]; omega), List.getElem?_eq_none (by rw [ivs_len]; omega)]
theorem nvs_ivs (n : Nat) (f : Nat → Nat) : nvs n f = ivs n (fun q => (f q : Int)) := rfl
/-- the number of a state in a list, or -1 -/
def numI (S : List Nat) (r : Nat) : Int := if r ∈ S then (S.idxOf r : Int) else -1
theorem numI_snoc (S : List Nat) (r : Nat) (h : r ∉ S) : (fun q => if q = r then (S.length : Int) else numI S q) = numI (S ++ [r]) := by
  funext q
  simp only [numI, List.mem_append, List.mem_singleton]
  by_cases e : q = r
  · subst e
    rw [if_pos rfl, if_pos (.inr rfl), List.idxOf_append, if_neg h]; simp
  · rw [if_neg e]
    by_cases c : q ∈ S
    · rw [if_pos c, if_pos (.inl c), List.idxOf_append, if_pos c]
    · rw [if_neg c, if_neg (fun h => h.elim c e)]
theorem bfsX_grow (t : Tbl) (q : Nat) (S : List Nat) (x : Nat) : ∀ j, ∃ R, bfsX t q S (x + j) = bfsX t q S x ++ R
  | 0 => ⟨[], (List.append_nil _).symm⟩
  | j + 1 => by
    obtain ⟨R, h⟩ := bfsX_grow t q S x j
    obtain ⟨R', h'⟩ := insN_pre (bfsX t q S (x + j)) (t.fin (t.nx q (x + j)))
    exact ⟨R ++ R', by rw [← Nat.add_assoc, bfsX, h', h, List.append_assoc]⟩
theorem ord_idx {t : Tbl} (hw : t.Wf) (hn1 : 1 ≤ t.n) {k x : Nat} (hk : k < (bfsN t k).length) (hx : x < t.d) :
    (ordT t).idxOf (t.fin (t.nx ((bfsN t k)[k]?.getD 0) x)) = (bfsX t ((bfsN t k)[k]?.getD 0) (bfsN t k) (x + 1)).idxOf (t.fin (t.nx ((bfsN t k)[k]?.getD 0) x)) := by
  obtain ⟨R, hR⟩ := ordT_pre hw hn1 (k + 1)
  rw [bfsN_step hk] at hR
  obtain ⟨R2, h2⟩ := bfsX_grow t ((bfsN t k)[k]?.getD 0) (bfsN t k) (x + 1) (t.d - (x + 1))
  rw [show x + 1 + (t.d - (x + 1)) = t.d by omega] at h2
  rw [hR, h2, List.append_assoc, List.idxOf_append, if_pos (bfsX_mem (by omega))]
theorem ord_at {t : Tbl} (hw : t.Wf) (hn1 : 1 ≤ t.n) {k : Nat} (hk : k < (bfsN t k).length) : (ordT t)[k]?.getD 0 = (bfsN t k)[k]?.getD 0 := by
  obtain ⟨R, hR⟩ := ordT_pre hw hn1 k
  rw [hR, pre_at hk]
def oN (t : Tbl) (i x : Nat) : Nat := (ordT t).idxOf (t.fin (t.nx ((ordT t)[i]?.getD 0) x))
def oO (t : Tbl) (i x : Nat) : Nat := t.ot ((ordT t)[i]?.getD 0) x
theorem ordT_lt {t : Tbl} (hw : t.Wf) (hn1 : 1 ≤ t.n) (i : Nat) : (ordT t)[i]?.getD 0 < t.n := by
  by_cases h : i < (ordT t).length
  · exact bfsN_at hw hn1 h
  · rw [List.getElem?_eq_none (by omega)]; simp; omega
theorem oN_le {t : Tbl} (hw : t.Wf) (hn1 : 1 ≤ t.n) (i x : Nat) : oN t i x ≤ t.n := Nat.le_trans List.idxOf_le_length (ordT_ok hw hn1).len
theorem gathM_ord (L : Int) (t : Tbl) : gathM L t (ordT t) (fun r => (ordT t).idxOf (t.fin r)) = paM L ((ordT t).length : Int) t.d (oN t) (oO t) (ordT t).length 0 0 := gathM_get
theorem zeroL (L : Int) (d : Nat) (f g : Nat → Nat → Nat) : Try.zeroCells29.setIfInBounds 0 (.int .i64 L) = (paM L 0 d f g 0 0 0).cells.toArray := by
  rw [← paM_start]
  apply Array.toList_inj.1
  rfl
theorem paM_states {L S S' : Int} {d : Nat} {f g : Nat → Nat → Nat} {q x y : Nat} : (paM L S d f g q x y).cells.set 1 (.int .i64 S') = (paM L S' d f g q x y).cells := rfl

theorem Mg.cellAt {B : Nat} {w0 w : World} {L : List (Nat × List Value × TypeId)} {G : List Gr} {g cap E z n i : Nat} {xs : List Value} (h : Mg B w0 w L G) (hi : G[i]? = some ⟨.slice (some ⟨g, 0, none⟩) n cap, E, z, n, xs⟩) {j : Nat} {v : Value} (hv : xs[j]? = some v) : w.cell? ⟨g, j, none⟩ = some v := by
  have h2 := World.ownsRow.cells (h.row i hi) (g := g) rfl _ _ hv
  rwa [show (⟨g, 0, none⟩ : Addr).add j = ⟨g, j, none⟩ by unfold Addr.add; split <;> simp_all] at h2
theorem i64s_at {S : List Nat} {k q : Nat} (hk : k < S.length) (hq : S[k]?.getD 0 = q) : (i64s (natsI S))[k]? = some (.int .i64 (q : Int)) := by
  simp only [i64s, natsI, List.getElem?_map, List.getElem?_eq_getElem hk, Option.map_some]
  rw [List.getElem?_eq_getElem hk, Option.getD_some] at hq
  rw [hq]
set_option maxRecDepth 100000 in
set_option maxHeartbeats 16000000 in
theorem l02Machine_any (m : Mch) (hwf : m.Wf) (hok : m.Ok) (a : Option Addr) (g : Wd) (c : Nat) (hg : GW m g) (hl : g.length ≤ 1000) (w : World) (hI : IntsAt w a g) :
    Calls Try.prog 119 #[.agg m.cells.toArray, .slice a g.length c] w (RetM (mwR m g) w) := by
  have HMX := Lib.hid (show Try.prog.follows .mixedOrders = true by kernel_rfl)
  have h3 := hok.l_le
  have h2 := hok.l_ge
  have HOK := Lib.hid hok
  have HGW := Lib.hid hg
  have hM0 := (((Mg.start w).alloc m.cells.toArray 29).alloc Try.zeroCells29 29)
  rw [World.size_alloc] at hM0
  have hm := hM0.mach 1 rfl
  have HRO := Lib.hid (l02Rows_any m hwf hok a g c hg hl _ (hI.keep hM0.below))
  have HM0 := Lib.hid hM0
  have HIZ : Hid ((Try.prog.info? 29).map (·.size) = some Try.zeroCells29.toList.length) := by show _ = _; rw [zero_len]; kernel_rfl
  have HOZ : Hid (∀ v ∈ Try.zeroCells29.toList, v.oneCell' = true) := zero_ones
  have HI5 : Hid ((Try.prog.info? 29).map (·.size) = some Try.zeroCells29.size) := by show _ = _; rw [HIZ.out, Array.length_toList]
  clear hM0 hI hg
  go_enter Try.func119, Try.ntmps119
  go_wp2_with ((with_reducible refine ld_mach ?_ (.tmp 2) ?_ (w.heap.size) (0) ?_ m hm hwf ?_); exact rfl; exact rfl; exact rfl)
  refine HRO.out.mono ?_
  intro e w1 hR
  cases hs : secR m anyB g with
  | error c =>
    rw [hs] at hR
    obtain ⟨rfl, hb1⟩ := hR
    have HD := Lib.hid (mwR_err hs)
    have hM1 := HM0.out.call hb1
    have ht := (hM1.at 0 rfl).there 0 Try.zeroCells29.toList.length (by simp)
    have hM2 := hM1.setAll 0 rfl (vs := Try.zeroCells29.toList) rfl
    have HB := Lib.hid (hM2.at 0 rfl)
    have HM2 := Lib.hid hM2
    clear hM2 hM1 HRO hs HM0 hm
    go_wp2_with ((with_reducible refine st_row ?_ 29 (.tmp 4) (.tmp 26) ?_ (w.heap.size + 1) 0 Try.zeroCells29.toList ?_ ?_ ht HIZ.out HOZ.out ?_); exact rfl; exact rfl; exact rfl; exact rfl)
    refine bodyPost_ret (v := .tuple #[.agg Try.zeroCells29, .int .i64 3]) (results_ct Try.results119 _ _ (w.heap.size + 1) 29 Try.zeroCells29 (0, 0) (.struct _) rfl HB.out Try.underlying29 rfl HI5.out) rfl ?_
    rw [HD.out]
    exact ⟨HM2.out.below, rfl⟩
  | ok p =>
    obtain ⟨Q, N⟩ := p
    rw [hs] at hR
    obtain ⟨vo, vn, rfl, hMR⟩ := hR
    have HD := Lib.hid (mwR_ok hs)
    obtain ⟨hB, hNl⟩ := secR_ok hok hwf HGW.out hs
    have hwT := tblW_wf hB hNl
    have hq200 := hB.toQOk.many
    have hqp := hB.pos
    have hM1 := HM0.out.callAll hMR
    have HRW : Hid (∀ W L G, Mg w.heap.size w W L (G ++ [grO m vo Q.length Q, grN m vn Q.length N]) → RowsT W vo vn (tblW m Q N)) := fun W L G h => (h.subG (List.sublist_append_right _ _)).rows hqp h3
    have HOT : Hid (∀ q x, q < (tblW m Q N).n → x < (tblW m Q N).d → (tblW m Q N).ot q x ≤ 255) := fun q x hq hx => by have := tblW_ot HOK.out hwf hB hq hx; omega
    obtain ⟨gO, cO, gN, cN, eO, eN, -, -⟩ := HRW.out w1 _ [] hM1
    have htn : (tblW m Q N).n = Q.length := rfl
    have htd : (tblW m Q N).d = m.l := rfl
    have HTN := Lib.hid htn
    have HTD := Lib.hid htd
    have hn200 : (tblW m Q N).n ≤ 200 := hq200
    have hn1 : 1 ≤ (tblW m Q N).n := hqp
    have hd3 : (tblW m Q N).d ≤ 3 := h3
    have HWF := Lib.hid hwT
    obtain ⟨GR, hGR⟩ : ∃ GR, GR = [grO m vo Q.length Q, grN m vn Q.length N] := ⟨_, rfl⟩
    rw [← hGR] at HRW
    have hM1' : Mg w.heap.size w w1 [(w.heap.size + 1, Try.zeroCells29.toList, 29), (w.heap.size, m.cells, 29)] GR := by rw [hGR]; exact hM1
    clear hGR hMR hM1 hwT hB hNl htn htd hs HRO HM0 hm
    subst eO eN
    have hRT := HRW.out w1 _ [] hM1'
    have HRC : Hid (∀ W L G, Mg w.heap.size w W L (G ++ GR) → (∀ i, i < (tblW m Q N).n → W.rangeAt gO (i * 3) (padC .u8 (tblW m Q N).d ((tblW m Q N).ot i))) ∧ (∀ i x, i < (tblW m Q N).n → x < (tblW m Q N).d → W.cell? ⟨gN, i * 3 + x, none⟩ = some (.int .i64 ((tblW m Q N).nx i x)))) := fun W L G h => by
      obtain ⟨gO', cO', gN', cN', e1, e2, h1, h2⟩ := HRW.out W L G h
      injection e1 with e1
      injection e1 with e1
      injection e1 with e1
      injection e2 with e2
      injection e2 with e2
      injection e2 with e2
      subst e1 e2
      exact ⟨h1, h2⟩
    have HSP := Lib.hid (l02Split_any (tblW m Q N) HWF.out (by omega) hd3 hn1 HOT.out _ _ w1 hRT)
    rw [HTD.out] at HSP
    have cl := (hM1'.mach 1 rfl).l
    rw [HOK.out.L_eq] at cl
    have HM1 := Lib.hid hM1'
    generalize tblW m Q N = t at *
    clear hM1' hRT
    go_wp2_with fail
    refine HSP.out.mono ?_
    rintro e w2 ⟨vF, rfl, hb2, hO2⟩
    have hM2 := HM1.out.callOwn hb2 hO2
    obtain ⟨gF, cF, rfl⟩ := hM2.form 0 (v := vF) rfl (by rw [finL_len]; omega)
    have HM2 := Lib.hid hM2
    clear hM2 hO2 hb2 HSP HM1 cl
    go_wp2_with fail
    refine region_A (fun _ => True) [] 6 (fun W => Mg w.heap.size w W [(w.heap.size + 1, Try.zeroCells29.toList, 29), (w.heap.size, m.cells, 29)] (⟨.slice (some ⟨gF, 0, none⟩) (finL t).length cF, 2, 1, (finL t).length, i64s (finL t)⟩ :: GR)) rfl HMX.out (HM2.out.drewN 1) (fun _ _ => trivial) (fun W hM hU => ?_)
    clear HM2
    (refine AnyS.take (i := 1) rfl (by kernel_rfl) (by kernel_rfl) (by kernel_rfl) (by rfl) (fun _ _ _ h => h) (by rfl) (by intro w; go_simp; with_reducible rfl) hU (fun hU => ?_); (try simp only [Act.put, List.setIfInBounds_toArray, List.set_cons_zero, List.set_cons_succ]); refine AnyS.take (i := 2) rfl (by kernel_rfl) (by kernel_rfl) (by kernel_rfl) (by rfl) (fun _ _ _ h => h) (by rfl) (by intro w; go_simp; with_reducible rfl) hU (fun hU => ?_); (try simp only [Act.put, List.setIfInBounds_toArray, List.set_cons_zero, List.set_cons_succ]))
    refine AnyS.branch (rs := [0, 3]) (by kernel_rfl) (by simp) (AllS.cons rfl (fun K hK => ?oA) (AllS.cons rfl (fun K hK => ?oB) AllS.nil))
    case' oA =>
      have hM3 := hM.newOwn #[.int .i64 0] 2 1 1 rfl (by omega)
      go_simp
      refine hK.out _ _ (.inl trivial) (fun hU => ?_)
      clear hK K hM
      (try simp only [Act.put, List.setIfInBounds_toArray, List.set_cons_zero, List.set_cons_succ])
      generalize W.alloc (.cells #[.int .i64 0] 2) = W4 at *
      generalize W.heap.size = bo at *
      have hmk := mk_i64 t.n (by omega) W4
      have hM5 := hM3.alloc (madeCells #[.int .i64 0] t.n) 2
      rw [made_i64] at hM5
      (refine AnyS.take (i := 4) rfl (by kernel_rfl) (by kernel_rfl) (by kernel_rfl) (by rfl) (fun _ _ _ h => h) (by rfl) (by intro w; go_simp; with_reducible rfl) hU (fun hU => ?_); (try simp only [Act.put, List.setIfInBounds_toArray, List.set_cons_zero, List.set_cons_succ]))
      (refine AnyS.branch (rs := [3]) (by kernel_rfl) (List.cons_ne_nil _ _) ?_; refine AllS.cons rfl ?_ AllS.nil; intro K hK)
      go_simp
      refine hK.out _ _ (.inl trivial) (fun hU => ?_)
      clear hK K hM3 hmk
      (try simp only [Act.put, List.setIfInBounds_toArray, List.set_cons_zero, List.set_cons_succ])
      generalize W4.alloc (.cells (madeCells #[.int .i64 0] t.n) 2) = W5 at *
      generalize W4.heap.size = bN at *
      (refine AnyS.take (i := 5) rfl (by kernel_rfl) (by kernel_rfl) (by kernel_rfl) (by rfl) (fun _ _ _ h => h) (by rfl) (by intro w; go_simp; with_reducible rfl) hU (fun hU => ?_); (try simp only [Act.put, List.setIfInBounds_toArray, List.set_cons_zero, List.set_cons_succ]))
      refine AnyS.done (by kernel_rfl) ?_ _
      clear hU
      have HM5 := Lib.hid hM5
      clear hM5
    case' oB =>
      have hmk := mk_i64 t.n (by omega) W
      have hM3 := hM.alloc (madeCells #[.int .i64 0] t.n) 2
      rw [made_i64] at hM3
      go_simp
      refine hK.out _ _ (.inl trivial) (fun hU => ?_)
      clear hK K hM hmk
      (try simp only [Act.put, List.setIfInBounds_toArray, List.set_cons_zero, List.set_cons_succ])
      generalize W.alloc (.cells (madeCells #[.int .i64 0] t.n) 2) = W4 at *
      generalize W.heap.size = bN at *
      have hM5 := hM3.newOwn #[.int .i64 0] 2 1 1 rfl (by omega)
      (refine AnyS.branch (rs := [0]) (by kernel_rfl) (List.cons_ne_nil _ _) ?_; refine AllS.cons rfl ?_ AllS.nil; intro K hK)
      go_simp
      refine hK.out _ _ (.inl trivial) (fun hU => ?_)
      clear hK K hM3
      (try simp only [Act.put, List.setIfInBounds_toArray, List.set_cons_zero, List.set_cons_succ])
      generalize W4.alloc (.cells #[.int .i64 0] 2) = W5 at *
      generalize W4.heap.size = bo at *
      (refine AnyS.take (i := 4) rfl (by kernel_rfl) (by kernel_rfl) (by kernel_rfl) (by rfl) (fun _ _ _ h => h) (by rfl) (by intro w; go_simp; with_reducible rfl) hU (fun hU => ?_); (try simp only [Act.put, List.setIfInBounds_toArray, List.set_cons_zero, List.set_cons_succ]); refine AnyS.take (i := 5) rfl (by kernel_rfl) (by kernel_rfl) (by kernel_rfl) (by rfl) (fun _ _ _ h => h) (by rfl) (by intro w; go_simp; with_reducible rfl) hU (fun hU => ?_); (try simp only [Act.put, List.setIfInBounds_toArray, List.set_cons_zero, List.set_cons_succ]))
      refine AnyS.done (by kernel_rfl) ?_ _
      clear hU
      have HM5 := Lib.hid hM5
      clear hM5
    all_goals
      have HM6 : Hid (Mg w.heap.size w W5 [(bN, ivs t.n (fun r => if r < 0 then -1 else 0), 2), (w.heap.size + 1, Try.zeroCells29.toList, 29), (w.heap.size, m.cells, 29)] (⟨.slice (some ⟨bo, 0, none⟩) 1 1, 2, 1, 1, i64s (natsI (bfsN t 0))⟩ :: ⟨.slice (some ⟨gF, 0, none⟩) (finL t).length cF, 2, 1, (finL t).length, i64s (finL t)⟩ :: GR)) := by
        show Mg _ _ _ _ _
        have e1 : ivs t.n (fun r => if r < 0 then -1 else 0) = nvs t.n (fun _ => 0) := by rw [nvs_ivs]; exact ivs_congr fun q _ => by rw [if_neg (by omega)]; rfl
        have e2 : i64s (natsI (bfsN t 0)) = [.int .i64 0] := by
          have : t.fin 0 = 0 := Nat.le_zero.1 (t.fin_le 0)
          simp [bfsN, this, i64s, natsI]
        rw [e1, e2]; exact HM5.out
      clear HM5
      go_wp2_with fail
      go_loopw [12] (fun iv wr => ∃ j : Nat, j ≤ t.n ∧ iv = .int .i64 (j : Int) ∧ Mg w.heap.size w wr [(bN, ivs t.n (fun r => if r < j then -1 else 0), 2), (w.heap.size + 1, Try.zeroCells29.toList, 29), (w.heap.size, m.cells, 29)] (⟨.slice (some ⟨bo, 0, none⟩) 1 1, 2, 1, 1, i64s (natsI (bfsN t 0))⟩ :: ⟨.slice (some ⟨gF, 0, none⟩) (finL t).length cF, 2, 1, (finL t).length, i64s (finL t)⟩ :: GR)) (fun i _ => t.n - (intOf i).toNat)
      case atStart => exact ⟨0, Nat.zero_le _, rfl, HM6.out⟩
      case round =>
        clear HM6
        obtain ⟨j, hj, rfl, hM⟩ := hrel
        by_cases hlt : j < t.n
        · have i1 : (0 : Int) ≤ (j : Int) := by omega
          have i2 : (j : Int) < (t.n : Int) := by omega
          have c1 := (hM.at 0 rfl).cell' (ivs_get _ hlt)
          have f1 := (hM.at 0 rfl).free j
          have hM2 := hM.setCell 0 rfl j (.int .i64 (-1))
          simp only [List.set_cons_zero] at hM2
          rw [ivs_set _ _ hlt, show ivs t.n (fun q => if q = j then (-1 : Int) else if q < j then -1 else 0) = ivs t.n (fun r => if r < j + 1 then -1 else 0) from ivs_congr fun q _ => by
            by_cases e : q = j
            · subst e; rw [if_pos rfl, if_pos (by omega)]
            · rw [if_neg e]
              by_cases h : q < j
              · rw [if_pos h, if_pos (by omega)]
              · rw [if_neg h, if_neg (by omega)]] at hM2
          rw [if_neg (Nat.lt_irrefl j)] at c1
          have HM2 := Lib.hid hM2
          clear hM hM2
          go_wp2_with fail
          go_roundw
          case rel => exact ⟨j + 1, by omega, by go_num, HM2.out⟩
          case measure => simp [intOf] <;> omega
        · have hj' : j = t.n := by omega
          subst hj'
          have c1 := (hM.at 0 rfl).cell' (ivs_get _ (show 0 < t.n by omega))
          have f1 := (hM.at 0 rfl).free 0
          have hM2 := hM.setCell 0 rfl 0 (.int .i64 0)
          simp only [List.set_cons_zero] at hM2
          rw [ivs_set _ _ (by omega), show ivs t.n (fun q => if q = 0 then (0 : Int) else if q < t.n then -1 else 0) = ivs t.n (numI (bfsN t 0)) from ivs_congr fun q hq => by
            have h0 : t.fin 0 = 0 := Nat.le_zero.1 (t.fin_le 0)
            simp only [bfsN, h0, numI, List.mem_singleton]
            by_cases e : q = 0
            · subst e; simp
            · rw [if_neg e, if_neg e, if_pos hq]] at hM2
          rw [if_pos (by omega)] at c1
          have cl : (wr.setCell ⟨bN, 0, none⟩ (.int .i64 0)).cell? ⟨w.heap.size, 0, none⟩ = some (.int .i64 m.L) := (hM2.mach 2 rfl).l
          have hM3 := hM2.alloc Try.zeroCells29 29
          rw [show (wr.setCell ⟨bN, 0, none⟩ (.int .i64 0)).heap.size = wr.heap.size by simp [World.setCell]] at hM3
          have hwp : ∀ q x y, (paM m.L 0 t.d (oN t) (oO t) q x y).Wf := fun q x y => paM_wf hwf.lb (by omega) (fun i z _ _ => Nat.le_trans (oN_le HWF.out hn1 i z) (by omega)) (fun i z _ hz => HOT.out _ _ (ordT_lt HWF.out hn1 i) hz)
          have HWP := Lib.hid hwp
          have ht := (hM3.at 0 rfl).there 0 (paM m.L 0 t.d (oN t) (oO t) 0 0 0).cells.length (by simp only; rw [zero_len, Mch.cells_length (hwp 0 0 0)]; omega)
          have hM4 := hM3.setAll 0 rfl (vs := (paM m.L 0 t.d (oN t) (oO t) 0 0 0).cells) (by rw [zero_len, Mch.cells_length (hwp 0 0 0)])
          simp only [List.set_cons_zero] at hM4
          have HIP := Lib.hid (mach_infoT (hwp 0 0 0))
          have HOP := Lib.hid (mach_ones (paM m.L 0 t.d (oN t) (oO t) 0 0 0))
          have HZL := Lib.hid (zeroL m.L t.d (oN t) (oO t))
          have HM4 := Lib.hid hM4
          clear hM hM2 hM3 hM4 hwp
          go_wp2_with ((with_reducible refine st_row ?_ 29 (.tmp 13) (.tmp 49) ?_ wr.heap.size 0 (paM m.L 0 t.d (oN t) (oO t) 0 0 0).cells ?_ ?_ ht HIP.out HOP.out ?_); exact rfl; exact rfl; exact rfl; (rw [← HZL.out]; exact rfl))
          have HM7 : Hid (Mg w.heap.size w (((wr.setCell ⟨bN, 0, none⟩ (.int .i64 0)).alloc (.cells Try.zeroCells29 29)).setCells wr.heap.size 0 (paM m.L 0 t.d (oN t) (oO t) 0 0 0).cells) [(wr.heap.size, (paM m.L 0 t.d (oN t) (oO t) 0 0 0).cells, 29), (bN, ivs t.n (numI (bfsN t 0)), 2), (w.heap.size + 1, Try.zeroCells29.toList, 29), (w.heap.size, m.cells, 29)]
            (⟨.slice (some ⟨bo, 0, none⟩) 1 1, 2, 1, (bfsN t 0).length, i64s (natsI (bfsN t 0))⟩ :: ⟨.slice (some ⟨gF, 0, none⟩) (finL t).length cF, 2, 1, (finL t).length, i64s (finL t)⟩ :: GR)) := HM4.out
          clear HM4 ht HIP HOP HZL c1 f1 cl
          generalize ((wr.setCell ⟨bN, 0, none⟩ (.int .i64 0)).alloc (.cells Try.zeroCells29 29)).setCells wr.heap.size 0 (paM m.L 0 t.d (oN t) (oO t) 0 0 0).cells = W13 at *
          generalize wr.heap.size = b13 at *
          go_loopw [10, 14] (fun ov kv wr => ∃ k : Nat, k ≤ 16 ∧ kv = .int .i64 (k : Int) ∧ k ≤ (bfsN t k).length ∧ Mg w.heap.size w wr [(b13, (paM m.L 0 t.d (oN t) (oO t) k 0 0).cells, 29), (bN, ivs t.n (numI (bfsN t k)), 2), (w.heap.size + 1, Try.zeroCells29.toList, 29), (w.heap.size, m.cells, 29)]
            (⟨ov, 2, 1, (bfsN t k).length, i64s (natsI (bfsN t k))⟩ :: ⟨.slice (some ⟨gF, 0, none⟩) (finL t).length cF, 2, 1, (finL t).length, i64s (finL t)⟩ :: GR)) (fun _ k _ => 17 - (intOf k).toNat)
          case atStart => exact ⟨0, Nat.zero_le _, rfl, Nat.zero_le _, HM7.out⟩
          case round =>
            clear HM7
            obtain ⟨k, hk16, rfl, hkl, hM⟩ := hrel
            have ek : IntKind.i64.wrap ((k : Int) + 1) = (k : Int) + 1 := IntWalk.i64_in _ (by omega)
            have hokB := bfsN_ok HWF.out hn1 k
            have hlenB := hokB.len
            obtain ⟨g10, c10, rfl⟩ := hM.form 0 (v := u10) rfl hokB.pos
            by_cases hlt : k < (bfsN t k).length
            · have k1 : (k : Int) < ((bfsN t k).length : Int) := by omega
              by_cases hk : k = 16
              · have h16 : 16 < (ordT t).length := by
                  obtain ⟨R, hR⟩ := ordT_pre HWF.out hn1 k
                  rw [hR, List.length_append]; omega
                have HR := Lib.hid (HD.out.trans (mwT_big (L := m.L) h16))
                have j1 : ((k : Int) == 16) = true := by simp; omega
                have ht := (hM.at 2 rfl).there 0 Try.zeroCells29.toList.length (by simp)
                have hM2 := hM.setAll 2 rfl (vs := Try.zeroCells29.toList) rfl
                have HB := Lib.hid (hM2.at 2 rfl)
                have HM2 := Lib.hid hM2
                clear hM hM2 hokB hlenB hk h16
                go_wp2_with ((with_reducible refine st_row ?_ 29 (.tmp 4) (.tmp 58) ?_ (w.heap.size + 1) 0 Try.zeroCells29.toList ?_ ?_ ht HIZ.out HOZ.out ?_); exact rfl; exact rfl; exact rfl; exact rfl)
                refine bodyPost_ret (v := .tuple #[.agg Try.zeroCells29, .int .i64 3]) (results_ct Try.results119 _ _ (w.heap.size + 1) 29 Try.zeroCells29 (0, 0) (.struct _) rfl HB.out Try.underlying29 rfl HI5.out) rfl ?_
                rw [HR.out]
                exact ⟨HM2.out.below, rfl⟩
              · have j1 : ((k : Int) == 16) = false := by simp; omega
                have k0 : (0 : Int) ≤ (k : Int) := by omega
                have k2 : (k : Int) < 16 := by omega
                have hq := bfsN_at HWF.out hn1 hlt
                have HSTP := Lib.hid (bfsN_step hlt)
                have HOI : Hid (∀ x, x < t.d → oN t k x = (bfsX t ((bfsN t k)[k]?.getD 0) (bfsN t k) (x + 1)).idxOf (t.fin (t.nx ((bfsN t k)[k]?.getD 0) x))) := fun x hx => by
                  rw [oN, ord_at HWF.out hn1 hlt]; exact ord_idx HWF.out hn1 hlt hx
                have HOO : Hid (∀ x, oO t k x = t.ot ((bfsN t k)[k]?.getD 0) x) := fun x => by rw [oO, ord_at HWF.out hn1 hlt]
                have hSq : (bfsN t k)[k]?.getD 0 = (bfsN t k)[k]?.getD 0 := rfl
                have HOKB := Lib.hid hokB
                have HNL : Hid (k + 1 ≤ (bfsN t (k + 1)).length) := by
                  obtain ⟨R, hR⟩ := bfsX_pre t ((bfsN t k)[k]?.getD 0) (bfsN t k) t.d
                  show _ ≤ _
                  rw [HSTP.out, hR, List.length_append]; omega
                have HSK : Hid (∀ x R, bfsX t ((bfsN t k)[k]?.getD 0) (bfsN t k) x = R → k < R.length ∧ R[k]?.getD 0 = (bfsN t k)[k]?.getD 0) := fun x R h => by
                  obtain ⟨R', hR'⟩ := bfsX_pre t ((bfsN t k)[k]?.getD 0) (bfsN t k) x
                  rw [← h, hR']
                  exact ⟨by rw [List.length_append]; omega, pre_at hlt⟩
                generalize bfsN t k = Sq at *
                generalize Sq[k]?.getD 0 = q at *
                have HM := Lib.hid hM
                have hM8 : Mg w.heap.size w wr [(b13, (paM m.L 0 t.d (oN t) (oO t) k 0 0).cells, 29), (bN, ivs t.n (numI (bfsX t q Sq 0)), 2), (w.heap.size + 1, Try.zeroCells29.toList, 29), (w.heap.size, m.cells, 29)]
                  (⟨.slice (some ⟨g10, 0, none⟩) Sq.length c10, 2, 1, (bfsX t q Sq 0).length, i64s (natsI (bfsX t q Sq 0))⟩ :: ⟨.slice (some ⟨gF, 0, none⟩) (finL t).length cF, 2, 1, (finL t).length, i64s (finL t)⟩ :: GR) := hM
                have HM8 := Lib.hid hM8
                clear hM hM8 HM hokB hlenB hk hSq
                go_wp2_with fail
                go_loopw [10, 15] (fun ov xv wi => ∃ x : Nat, x ≤ t.d ∧ xv = .int .i64 (x : Int) ∧ Mg w.heap.size w wi [(b13, (paM m.L 0 t.d (oN t) (oO t) k x x).cells, 29), (bN, ivs t.n (numI (bfsX t q Sq x)), 2), (w.heap.size + 1, Try.zeroCells29.toList, 29), (w.heap.size, m.cells, 29)]
                  (⟨ov, 2, 1, (bfsX t q Sq x).length, i64s (natsI (bfsX t q Sq x))⟩ :: ⟨.slice (some ⟨gF, 0, none⟩) (finL t).length cF, 2, 1, (finL t).length, i64s (finL t)⟩ :: GR)) (fun _ i _ => t.d - (intOf i).toNat)
                case atStart => exact ⟨0, Nat.zero_le _, rfl, HM8.out⟩
                case round =>
                  clear HM8
                  obtain ⟨x, hx, rfl, hM⟩ := hrel
                  have ex : IntKind.i64.wrap ((x : Int) + 1) = (x : Int) + 1 := IntWalk.i64_in _ (by omega)
                  have cl := (hM.mach 3 rfl).l
                  rw [HOK.out.L_eq, ← HTD.out] at cl
                  by_cases hxl : x < t.d
                  · have hRok := HOKB.out.row HWF.out hq x hx
                    have hRl := hRok.len
                    have hSKx := HSK.out x _ rfl
                    have HIN : Hid (bfsX t q Sq (x + 1) = insN (bfsX t q Sq x) (t.fin (t.nx q x))) := rfl
                    have HOX := Lib.hid (HOI.out x hxl)
                    have hnr := HWF.out q x hq hxl
                    have hfr := fin_lt hnr
                    have HOV := Lib.hid (HOO.out x)
                    have HOB : Hid (oO t k x ≤ 255) := by show _ ≤ _; rw [HOV.out]; exact HOT.out q x hq hxl
                    have HNB : Hid (oN t k x ≤ 200) := by have := oN_le HWF.out hn1 k x; show _ ≤ _; omega
                    have HST1 : Hid (∀ W LX G, Mg w.heap.size w W ((b13, (paM m.L 0 t.d (oN t) (oO t) k x x).cells, 29) :: LX) G → W.cell? ⟨b13, 50 + k * 3 + x, none⟩ = some (.int .u8 ((paM m.L 0 t.d (oN t) (oO t) k x x).o k x)) ∧ W.frozen? ⟨b13, 50 + k * 3 + x, none⟩ = false ∧
                        Mg w.heap.size w (W.setCell ⟨b13, 50 + k * 3 + x, none⟩ (.int .u8 (oO t k x : Int))) ((b13, (paM m.L 0 t.d (oN t) (oO t) k x (x + 1)).cells, 29) :: LX) G) := fun W LX G h => by
                      have d1 := (h.mach 0 rfl).oo (HWP.out k x x) (q := k) (x := x) (by omega) (by omega)
                      have h2 := h.setCell 0 rfl (50 + k * 3 + x) (.int .u8 (oO t k x : Int))
                      rw [paM_setO (by omega) hxl hd3] at h2
                      simp only [List.set_cons_zero] at h2
                      exact ⟨by simpa using d1, (h.at 0 rfl).free _, h2⟩
                    have HST2 : Hid (∀ W LX G, Mg w.heap.size w W ((b13, (paM m.L 0 t.d (oN t) (oO t) k x (x + 1)).cells, 29) :: LX) G → W.cell? ⟨b13, 2 + k * 3 + x, none⟩ = some (.int .u8 ((paM m.L 0 t.d (oN t) (oO t) k x (x + 1)).n k x)) ∧ W.frozen? ⟨b13, 2 + k * 3 + x, none⟩ = false ∧
                        Mg w.heap.size w (W.setCell ⟨b13, 2 + k * 3 + x, none⟩ (.int .u8 (oN t k x : Int))) ((b13, (paM m.L 0 t.d (oN t) (oO t) k (x + 1) (x + 1)).cells, 29) :: LX) G) := fun W LX G h => by
                      have d1 := (h.mach 0 rfl).nn (HWP.out k x (x + 1)) (q := k) (x := x) (by omega) (by omega)
                      have h2 := h.setCell 0 rfl (2 + k * 3 + x) (.int .u8 (oN t k x : Int))
                      rw [paM_setN (by omega) hxl hd3] at h2
                      simp only [List.set_cons_zero] at h2
                      exact ⟨by simpa using d1, (h.at 0 rfl).free _, h2⟩
                    have HOC : Hid (∀ W L G, Mg w.heap.size w W L (G ++ GR) → W.cell? ⟨gO, q * 3 + x, none⟩ = some (.int .u8 (oO t k x : Int))) := fun W L G h => by
                      have h1 := (HRC.out W L G h).1 q hq x _ (padC_get .u8 t.d (t.ot q) (by omega : x < 3))
                      rw [if_pos hxl, ← HOV.out] at h1
                      exact h1
                    have kN := (HRC.out wr _ [_, _] hM).2 q x hq hxl
                    have HFR : Hid (t.fin (t.nx q x) < t.n) := hfr
                    obtain ⟨g10', c10', e10⟩ := hM.form 0 (v := u10) rfl hRok.pos
                    subst e10
                    have kO := hM.cellAt (i := 0) rfl (i64s_at hSKx.1 hSKx.2)
                    have kF := hM.cellAt (i := 1) rfl (j := t.nx q x) (v := .int .i64 (t.fin (t.nx q x) : Int)) (by
                      have := finL_get t hnr
                      have hl := finL_len t
                      simp only [i64s, List.getElem?_map, List.getElem?_eq_getElem (by omega : t.nx q x < (finL t).length), Option.map_some]
                      rw [List.getElem?_eq_getElem (by omega), Option.getD_some] at this
                      rw [this])
                    have kM := (hM.at 1 rfl).cell' (ivs_get (numI (bfsX t q Sq x)) hfr)
                    have fM := (hM.at 1 rfl).free (t.fin (t.nx q x))
                    have x0 : (0 : Int) ≤ (x : Int) := by omega
                    have x1 : (x : Int) < (t.d : Int) := by omega
                    have x2 : (x : Int) < 3 := by omega
                    have q0 : (0 : Int) ≤ (q : Int) := by omega
                    have q1 : (q : Int) < (t.n : Int) := by omega
                    have n0 : (0 : Int) ≤ (t.nx q x : Int) := by omega
                    have n1 : (t.nx q x : Int) < ((finL t).length : Int) := by rw [finL_len]; omega
                    have r0 : (0 : Int) ≤ (t.fin (t.nx q x) : Int) := by omega
                    have r1 : (t.fin (t.nx q x) : Int) < (t.n : Int) := by omega
                    have kR : (k : Int) < ((bfsX t q Sq x).length : Int) := by have := hSKx.1; omega
                    have HSKx := Lib.hid hSKx
                    generalize bfsX t q Sq x = R at *
                    generalize t.nx q x = nr at *
                    generalize t.fin nr = fr at *
                    generalize hov : oO t k x = ov at *
                    generalize hnv : oN t k x = nv at *
                    clear hov hnv
                    have u1 : IntKind.u8.wrap (nv : Int) = (nv : Int) := IntWalk.u8_in _ ⟨by omega, by have := HNB.out; omega⟩
                    by_cases hmem : fr ∈ R
                    · have HRN : Hid (bfsX t q Sq (x + 1) = R) := by show _ = _; rw [HIN.out, insN, if_pos hmem]
                      have HNV : Hid (numI R fr = (nv : Int)) := by show _ = _; rw [numI, if_pos hmem, HOX.out, HRN.out]
                      rw [HNV.out] at kM
                      have j3 : ¬ ((nv : Int) < 0) := by omega
                      have HCK : Hid ((i64s (natsI R))[k]? = some (.int .i64 (q : Int))) := i64s_at HSKx.out.1 HSKx.out.2
                      have k9 : (k : Int) < (R.length : Int) := by have := HSKx.out.1; omega
                      have HM9 := Lib.hid hM
                      clear hM hmem hRok hSKx
                      go_wp2_with fail
                      clear kO kF kM fM kN cl
                      have HMd : Hid (Mg w.heap.size w (wr).drew ((b13, (paM m.L 0 t.d (oN t) (oO t) k x x).cells, 29) :: [(bN, ivs t.n (numI R), 2), (w.heap.size + 1, Try.zeroCells29.toList, 29), (w.heap.size, m.cells, 29)]) (⟨.slice (some ⟨g10', 0, none⟩) R.length c10', 2, 1, R.length, i64s (natsI R)⟩ :: ⟨.slice (some ⟨gF, 0, none⟩) (finL t).length cF, 2, 1, (finL t).length, i64s (finL t)⟩ :: GR)) := HM9.out.drewN 1
                      refine region_A (fun W => W.cell? ⟨g10', k, none⟩ = some (.int .i64 (q : Int)) ∧ W.cell? ⟨gO, q * 3 + x, none⟩ = some (.int .u8 (ov : Int))) [14] 15 (fun W => Mg w.heap.size w W ((b13, (paM m.L 0 t.d (oN t) (oO t) k x x).cells, 29) :: [(bN, ivs t.n (numI R), 2), (w.heap.size + 1, Try.zeroCells29.toList, 29), (w.heap.size, m.cells, 29)]) (⟨.slice (some ⟨g10', 0, none⟩) R.length c10', 2, 1, R.length, i64s (natsI R)⟩ :: ⟨.slice (some ⟨gF, 0, none⟩) (finL t).length cF, 2, 1, (finL t).length, i64s (finL t)⟩ :: GR)) rfl HMX.out HMd.out (fun W h => ⟨h.cellAt (i := 0) rfl HCK.out, HOC.out W _ [_, _] h⟩) (fun W hM hU => ?_)
                      clear HMd HM9
                      (refine AnyS.take (i := 0) rfl (by kernel_rfl) (by kernel_rfl) (by kernel_rfl) (by rfl) (fun _ _ _ h => h) (by rfl) (by intro w; go_simp; with_reducible rfl) hU (fun hU => ?_); (try simp only [Act.put, List.setIfInBounds_toArray, List.set_cons_zero, List.set_cons_succ]); refine AnyS.take (i := 1) rfl (by kernel_rfl) (by kernel_rfl) (by kernel_rfl) (by rfl) (fun _ _ _ h => h) (by rfl) (by intro w; go_simp; with_reducible rfl) hU (fun hU => ?_); (try simp only [Act.put, List.setIfInBounds_toArray, List.set_cons_zero, List.set_cons_succ]); refine AnyS.take (i := 2) rfl (by kernel_rfl) (by kernel_rfl) (by kernel_rfl) (by rfl) (fun _ _ _ h => h) (by rfl) (by intro w; go_simp; with_reducible rfl) hU (fun hU => ?_); (try simp only [Act.put, List.setIfInBounds_toArray, List.set_cons_zero, List.set_cons_succ]); refine AnyS.take (i := 3) rfl (by kernel_rfl) (by kernel_rfl) (by kernel_rfl) (by rfl) (fun _ _ _ h => h) (by rfl) (by intro w; go_simp; with_reducible rfl) hU (fun hU => ?_); (try simp only [Act.put, List.setIfInBounds_toArray, List.set_cons_zero, List.set_cons_succ]); refine AnyS.take (i := 4) rfl (by kernel_rfl) (by kernel_rfl) (by kernel_rfl) (by rfl) (fun _ _ _ h => h) (by rfl) (by intro w; go_simp; with_reducible rfl) hU (fun hU => ?_); (try simp only [Act.put, List.setIfInBounds_toArray, List.set_cons_zero, List.set_cons_succ]); refine AnyS.take (i := 5) rfl (by kernel_rfl) (by kernel_rfl) (by kernel_rfl) (by rfl) (fun _ _ _ h => h) (by rfl) (by intro w; go_simp; with_reducible rfl) hU (fun hU => ?_); (try simp only [Act.put, List.setIfInBounds_toArray, List.set_cons_zero, List.set_cons_succ]))
                      (refine AnyS.takeS (i := 6) rfl (by kernel_rfl) (by kernel_rfl) (by kernel_rfl) (by rfl) (by kernel_rfl) (by kernel_rfl) (fun _ _ _ h => h) (by rfl) (by intro W hSw; have h1 := hSw.1; clear hSw; go_simp; with_reducible rfl) hU (fun hU => ?_); (try simp only [Act.put, List.setIfInBounds_toArray, List.set_cons_zero, List.set_cons_succ]))
                      (refine AnyS.take (i := 7) rfl (by kernel_rfl) (by kernel_rfl) (by kernel_rfl) (by rfl) (fun _ _ _ h => h) (by rfl) (by intro w; go_simp; with_reducible rfl) hU (fun hU => ?_); (try simp only [Act.put, List.setIfInBounds_toArray, List.set_cons_zero, List.set_cons_succ]); refine AnyS.take (i := 8) rfl (by kernel_rfl) (by kernel_rfl) (by kernel_rfl) (by rfl) (fun _ _ _ h => h) (by rfl) (by intro w; go_simp; with_reducible rfl) hU (fun hU => ?_); (try simp only [Act.put, List.setIfInBounds_toArray, List.set_cons_zero, List.set_cons_succ]); refine AnyS.take (i := 9) rfl (by kernel_rfl) (by kernel_rfl) (by kernel_rfl) (by rfl) (fun _ _ _ h => h) (by rfl) (by intro w; go_simp; with_reducible rfl) hU (fun hU => ?_); (try simp only [Act.put, List.setIfInBounds_toArray, List.set_cons_zero, List.set_cons_succ]))
                      (refine AnyS.takeS (i := 10) rfl (by kernel_rfl) (by kernel_rfl) (by kernel_rfl) (by rfl) (by kernel_rfl) (by kernel_rfl) (fun _ _ _ h => h) (by rfl) (by intro W hSw; have h1 := hSw.2; clear hSw; go_simp; with_reducible rfl) hU (fun hU => ?_); (try simp only [Act.put, List.setIfInBounds_toArray, List.set_cons_zero, List.set_cons_succ]))
                      (refine AnyS.take (i := 11) rfl (by kernel_rfl) (by kernel_rfl) (by kernel_rfl) (by rfl) (fun _ _ _ h => h) (by rfl) (by intro w; go_simp; with_reducible rfl) hU (fun hU => ?_); (try simp only [Act.put, List.setIfInBounds_toArray, List.set_cons_zero, List.set_cons_succ]); refine AnyS.take (i := 12) rfl (by kernel_rfl) (by kernel_rfl) (by kernel_rfl) (by rfl) (fun _ _ _ h => h) (by rfl) (by intro w; go_simp; with_reducible rfl) hU (fun hU => ?_); (try simp only [Act.put, List.setIfInBounds_toArray, List.set_cons_zero, List.set_cons_succ]); refine AnyS.take (i := 13) rfl (by kernel_rfl) (by kernel_rfl) (by kernel_rfl) (by rfl) (fun _ _ _ h => h) (by rfl) (by intro w; go_simp; with_reducible rfl) hU (fun hU => ?_); (try simp only [Act.put, List.setIfInBounds_toArray, List.set_cons_zero, List.set_cons_succ]))
                      obtain ⟨d1, f1, hM10⟩ := HST1.out _ _ _ hM
                      (refine AnyS.branch (rs := [14]) (by kernel_rfl) (List.cons_ne_nil _ _) ?_; refine AllS.cons rfl ?_ AllS.nil; intro K hK)
                      go_simp
                      refine hK.out _ _ (.inr ⟨14, by simp, by rfl⟩) (fun hU => ?_)
                      clear hK K d1 f1 hM
                      (try simp only [Act.put, List.setIfInBounds_toArray, List.set_cons_zero, List.set_cons_succ])
                      refine AnyS.done (by kernel_rfl) ?_ _
                      clear hU
                      have HM10 := Lib.hid hM10
                      clear hM10
                      go_wp2_with fail
                      refine region_A (fun W => W.cell? ⟨bN, fr, none⟩ = some (.int .i64 (nv : Int))) [10] 11 (fun W => Mg w.heap.size w W ((b13, (paM m.L 0 t.d (oN t) (oO t) k x (x + 1)).cells, 29) :: [(bN, ivs t.n (numI R), 2), (w.heap.size + 1, Try.zeroCells29.toList, 29), (w.heap.size, m.cells, 29)]) (⟨.slice (some ⟨g10', 0, none⟩) R.length c10', 2, 1, R.length, i64s (natsI R)⟩ :: ⟨.slice (some ⟨gF, 0, none⟩) (finL t).length cF, 2, 1, (finL t).length, i64s (finL t)⟩ :: GR)) rfl HMX.out (HM10.out.drewN 1) (fun W h => by have := (h.at 1 rfl).cell' (ivs_get (numI R) HFR.out); rwa [HNV.out] at this) (fun W hM hU => ?_)
                      clear HM10
                      (refine AnyS.take (i := 0) rfl (by kernel_rfl) (by kernel_rfl) (by kernel_rfl) (by rfl) (fun _ _ _ h => h) (by rfl) (by intro w; go_simp; with_reducible rfl) hU (fun hU => ?_); (try simp only [Act.put, List.setIfInBounds_toArray, List.set_cons_zero, List.set_cons_succ]); refine AnyS.take (i := 1) rfl (by kernel_rfl) (by kernel_rfl) (by kernel_rfl) (by rfl) (fun _ _ _ h => h) (by rfl) (by intro w; go_simp; with_reducible rfl) hU (fun hU => ?_); (try simp only [Act.put, List.setIfInBounds_toArray, List.set_cons_zero, List.set_cons_succ]); refine AnyS.take (i := 2) rfl (by kernel_rfl) (by kernel_rfl) (by kernel_rfl) (by rfl) (fun _ _ _ h => h) (by rfl) (by intro w; go_simp; with_reducible rfl) hU (fun hU => ?_); (try simp only [Act.put, List.setIfInBounds_toArray, List.set_cons_zero, List.set_cons_succ]); refine AnyS.take (i := 3) rfl (by kernel_rfl) (by kernel_rfl) (by kernel_rfl) (by rfl) (fun _ _ _ h => h) (by rfl) (by intro w; go_simp; with_reducible rfl) hU (fun hU => ?_); (try simp only [Act.put, List.setIfInBounds_toArray, List.set_cons_zero, List.set_cons_succ]); refine AnyS.take (i := 4) rfl (by kernel_rfl) (by kernel_rfl) (by kernel_rfl) (by rfl) (fun _ _ _ h => h) (by rfl) (by intro w; go_simp; with_reducible rfl) hU (fun hU => ?_); (try simp only [Act.put, List.setIfInBounds_toArray, List.set_cons_zero, List.set_cons_succ]))
                      (refine AnyS.takeS (i := 5) rfl (by kernel_rfl) (by kernel_rfl) (by kernel_rfl) (by rfl) (by kernel_rfl) (by kernel_rfl) (fun _ _ _ h => h) (by rfl) (by intro W hSw; have h1 := hSw; clear hSw; go_simp; with_reducible rfl) hU (fun hU => ?_); (try simp only [Act.put, List.setIfInBounds_toArray, List.set_cons_zero, List.set_cons_succ]))
                      (refine AnyS.take (i := 6) rfl (by kernel_rfl) (by kernel_rfl) (by kernel_rfl) (by rfl) (fun _ _ _ h => h) (by rfl) (by intro w; go_simp; with_reducible rfl) hU (fun hU => ?_); (try simp only [Act.put, List.setIfInBounds_toArray, List.set_cons_zero, List.set_cons_succ]); refine AnyS.take (i := 7) rfl (by kernel_rfl) (by kernel_rfl) (by kernel_rfl) (by rfl) (fun _ _ _ h => h) (by rfl) (by intro w; go_simp; with_reducible rfl) hU (fun hU => ?_); (try simp only [Act.put, List.setIfInBounds_toArray, List.set_cons_zero, List.set_cons_succ]); refine AnyS.take (i := 8) rfl (by kernel_rfl) (by kernel_rfl) (by kernel_rfl) (by rfl) (fun _ _ _ h => h) (by rfl) (by intro w; go_simp; with_reducible rfl) hU (fun hU => ?_); (try simp only [Act.put, List.setIfInBounds_toArray, List.set_cons_zero, List.set_cons_succ]); refine AnyS.take (i := 9) rfl (by kernel_rfl) (by kernel_rfl) (by kernel_rfl) (by rfl) (fun _ _ _ h => h) (by rfl) (by intro w; go_simp; with_reducible rfl) hU (fun hU => ?_); (try simp only [Act.put, List.setIfInBounds_toArray, List.set_cons_zero, List.set_cons_succ]))
                      obtain ⟨d1, f1, hM10⟩ := HST2.out _ _ _ hM
                      (refine AnyS.branch (rs := [10]) (by kernel_rfl) (List.cons_ne_nil _ _) ?_; refine AllS.cons rfl ?_ AllS.nil; intro K hK)
                      go_simp
                      refine hK.out _ _ (.inr ⟨10, by simp, by rfl⟩) (fun hU => ?_)
                      clear hK K d1 f1 hM
                      (try simp only [Act.put, List.setIfInBounds_toArray, List.set_cons_zero, List.set_cons_succ])
                      refine AnyS.done (by kernel_rfl) ?_ _
                      clear hU
                      have HM10 := Lib.hid hM10
                      clear hM10
                      go_wp2_with fail
                      go_roundw
                      case rel => exact ⟨x + 1, by omega, by go_num, by rw [HRN.out]; exact HM10.out⟩
                      case measure => simp [intOf] <;> omega
                    · have HRN : Hid (bfsX t q Sq (x + 1) = R ++ [fr]) := by show _ = _; rw [HIN.out, insN, if_neg hmem]
                      have HNV : Hid (numI (R ++ [fr]) fr = (nv : Int)) := by show _ = _; rw [numI, if_pos (by simp), HOX.out, HRN.out]
                      have e1 : numI R fr = -1 := by rw [numI, if_neg hmem]
                      rw [e1] at kM
                      have HCK : Hid ((i64s (natsI (R ++ [fr])))[k]? = some (.int .i64 (q : Int))) := i64s_at (by rw [List.length_append]; have := HSKx.out.1; omega) (by rw [pre_at HSKx.out.1]; exact HSKx.out.2)
                      have k9 : (k : Int) < (R.length : Int) + 1 := by have := HSKx.out.1; omega
                      have hM2 := hM.setCell 1 rfl fr (.int .i64 (R.length : Int))
                      simp only [List.set_cons_zero, List.set_cons_succ] at hM2
                      rw [ivs_set _ _ hfr, numI_snoc R fr hmem] at hM2
                      obtain ⟨i0, hi0, hz0, hz1, hz2⟩ := info_parts Try.info2
                      have hRl6 : R.length ≤ 1000000 := by omega
                      clear hM hmem hRok hSKx e1
                      go_wp2_with (at_builtin; refine Mg.append rfl (.tmp 87) (.tmp 89) 26 rfl hM2 0 rfl Try.underlying26 hi0 hz0 hz1 hz2 rfl (by decide) (us := #[_]) rfl rfl wr.heap.size (by simp [World.setCell]) rfl (by simp [Value.oneCell']) hRl6 (by omega) ?_)
                      intro g7 c7 w7 hM7
                      (try simp only [List.set_cons_zero, List.set_cons_succ] at hM7)
                      have e2 : i64s (natsI (R ++ [fr])) = i64s (natsI R) ++ [Value.int .i64 (fr : Int)] := by simp [i64s, natsI]
                      have HRLEN : Hid ((R ++ [fr]).length = R.length + 1) := by show _ = _; simp
                      have HM9 : Hid (Mg w.heap.size w w7 ((b13, (paM m.L 0 t.d (oN t) (oO t) k x x).cells, 29) :: [(bN, ivs t.n (numI (R ++ [fr])), 2), (w.heap.size + 1, Try.zeroCells29.toList, 29), (w.heap.size, m.cells, 29)]) (⟨.slice (some ⟨g7, 0, none⟩) (R.length + 1) c7, 2, 1, R.length + 1, i64s (natsI (R ++ [fr]))⟩ :: ⟨.slice (some ⟨gF, 0, none⟩) (finL t).length cF, 2, 1, (finL t).length, i64s (finL t)⟩ :: GR)) := by
                        show Mg _ _ _ _ _
                        rw [e2]; exact hM7
                      clear hM2 hM7 e2 kO kF kM fM kN cl
                      go_wp2_with fail
                      have HMd : Hid (Mg w.heap.size w (w7).drew ((b13, (paM m.L 0 t.d (oN t) (oO t) k x x).cells, 29) :: [(bN, ivs t.n (numI (R ++ [fr])), 2), (w.heap.size + 1, Try.zeroCells29.toList, 29), (w.heap.size, m.cells, 29)]) (⟨.slice (some ⟨g7, 0, none⟩) (R.length + 1) c7, 2, 1, (R.length + 1), i64s (natsI (R ++ [fr]))⟩ :: ⟨.slice (some ⟨gF, 0, none⟩) (finL t).length cF, 2, 1, (finL t).length, i64s (finL t)⟩ :: GR)) := HM9.out.drewN 1
                      refine region_A (fun W => W.cell? ⟨g7, k, none⟩ = some (.int .i64 (q : Int)) ∧ W.cell? ⟨gO, q * 3 + x, none⟩ = some (.int .u8 (ov : Int))) [14] 15 (fun W => Mg w.heap.size w W ((b13, (paM m.L 0 t.d (oN t) (oO t) k x x).cells, 29) :: [(bN, ivs t.n (numI (R ++ [fr])), 2), (w.heap.size + 1, Try.zeroCells29.toList, 29), (w.heap.size, m.cells, 29)]) (⟨.slice (some ⟨g7, 0, none⟩) (R.length + 1) c7, 2, 1, (R.length + 1), i64s (natsI (R ++ [fr]))⟩ :: ⟨.slice (some ⟨gF, 0, none⟩) (finL t).length cF, 2, 1, (finL t).length, i64s (finL t)⟩ :: GR)) rfl HMX.out HMd.out (fun W h => ⟨h.cellAt (i := 0) rfl HCK.out, HOC.out W _ [_, _] h⟩) (fun W hM hU => ?_)
                      clear HMd HM9
                      (refine AnyS.take (i := 0) rfl (by kernel_rfl) (by kernel_rfl) (by kernel_rfl) (by rfl) (fun _ _ _ h => h) (by rfl) (by intro w; go_simp; with_reducible rfl) hU (fun hU => ?_); (try simp only [Act.put, List.setIfInBounds_toArray, List.set_cons_zero, List.set_cons_succ]); refine AnyS.take (i := 1) rfl (by kernel_rfl) (by kernel_rfl) (by kernel_rfl) (by rfl) (fun _ _ _ h => h) (by rfl) (by intro w; go_simp; with_reducible rfl) hU (fun hU => ?_); (try simp only [Act.put, List.setIfInBounds_toArray, List.set_cons_zero, List.set_cons_succ]); refine AnyS.take (i := 2) rfl (by kernel_rfl) (by kernel_rfl) (by kernel_rfl) (by rfl) (fun _ _ _ h => h) (by rfl) (by intro w; go_simp; with_reducible rfl) hU (fun hU => ?_); (try simp only [Act.put, List.setIfInBounds_toArray, List.set_cons_zero, List.set_cons_succ]); refine AnyS.take (i := 3) rfl (by kernel_rfl) (by kernel_rfl) (by kernel_rfl) (by rfl) (fun _ _ _ h => h) (by rfl) (by intro w; go_simp; with_reducible rfl) hU (fun hU => ?_); (try simp only [Act.put, List.setIfInBounds_toArray, List.set_cons_zero, List.set_cons_succ]); refine AnyS.take (i := 4) rfl (by kernel_rfl) (by kernel_rfl) (by kernel_rfl) (by rfl) (fun _ _ _ h => h) (by rfl) (by intro w; go_simp; with_reducible rfl) hU (fun hU => ?_); (try simp only [Act.put, List.setIfInBounds_toArray, List.set_cons_zero, List.set_cons_succ]); refine AnyS.take (i := 5) rfl (by kernel_rfl) (by kernel_rfl) (by kernel_rfl) (by rfl) (fun _ _ _ h => h) (by rfl) (by intro w; go_simp; with_reducible rfl) hU (fun hU => ?_); (try simp only [Act.put, List.setIfInBounds_toArray, List.set_cons_zero, List.set_cons_succ]))
                      (refine AnyS.takeS (i := 6) rfl (by kernel_rfl) (by kernel_rfl) (by kernel_rfl) (by rfl) (by kernel_rfl) (by kernel_rfl) (fun _ _ _ h => h) (by rfl) (by intro W hSw; have h1 := hSw.1; clear hSw; go_simp; with_reducible rfl) hU (fun hU => ?_); (try simp only [Act.put, List.setIfInBounds_toArray, List.set_cons_zero, List.set_cons_succ]))
                      (refine AnyS.take (i := 7) rfl (by kernel_rfl) (by kernel_rfl) (by kernel_rfl) (by rfl) (fun _ _ _ h => h) (by rfl) (by intro w; go_simp; with_reducible rfl) hU (fun hU => ?_); (try simp only [Act.put, List.setIfInBounds_toArray, List.set_cons_zero, List.set_cons_succ]); refine AnyS.take (i := 8) rfl (by kernel_rfl) (by kernel_rfl) (by kernel_rfl) (by rfl) (fun _ _ _ h => h) (by rfl) (by intro w; go_simp; with_reducible rfl) hU (fun hU => ?_); (try simp only [Act.put, List.setIfInBounds_toArray, List.set_cons_zero, List.set_cons_succ]); refine AnyS.take (i := 9) rfl (by kernel_rfl) (by kernel_rfl) (by kernel_rfl) (by rfl) (fun _ _ _ h => h) (by rfl) (by intro w; go_simp; with_reducible rfl) hU (fun hU => ?_); (try simp only [Act.put, List.setIfInBounds_toArray, List.set_cons_zero, List.set_cons_succ]))
                      (refine AnyS.takeS (i := 10) rfl (by kernel_rfl) (by kernel_rfl) (by kernel_rfl) (by rfl) (by kernel_rfl) (by kernel_rfl) (fun _ _ _ h => h) (by rfl) (by intro W hSw; have h1 := hSw.2; clear hSw; go_simp; with_reducible rfl) hU (fun hU => ?_); (try simp only [Act.put, List.setIfInBounds_toArray, List.set_cons_zero, List.set_cons_succ]))
                      (refine AnyS.take (i := 11) rfl (by kernel_rfl) (by kernel_rfl) (by kernel_rfl) (by rfl) (fun _ _ _ h => h) (by rfl) (by intro w; go_simp; with_reducible rfl) hU (fun hU => ?_); (try simp only [Act.put, List.setIfInBounds_toArray, List.set_cons_zero, List.set_cons_succ]); refine AnyS.take (i := 12) rfl (by kernel_rfl) (by kernel_rfl) (by kernel_rfl) (by rfl) (fun _ _ _ h => h) (by rfl) (by intro w; go_simp; with_reducible rfl) hU (fun hU => ?_); (try simp only [Act.put, List.setIfInBounds_toArray, List.set_cons_zero, List.set_cons_succ]); refine AnyS.take (i := 13) rfl (by kernel_rfl) (by kernel_rfl) (by kernel_rfl) (by rfl) (fun _ _ _ h => h) (by rfl) (by intro w; go_simp; with_reducible rfl) hU (fun hU => ?_); (try simp only [Act.put, List.setIfInBounds_toArray, List.set_cons_zero, List.set_cons_succ]))
                      obtain ⟨d1, f1, hM10⟩ := HST1.out _ _ _ hM
                      (refine AnyS.branch (rs := [14]) (by kernel_rfl) (List.cons_ne_nil _ _) ?_; refine AllS.cons rfl ?_ AllS.nil; intro K hK)
                      go_simp
                      refine hK.out _ _ (.inr ⟨14, by simp, by rfl⟩) (fun hU => ?_)
                      clear hK K d1 f1 hM
                      (try simp only [Act.put, List.setIfInBounds_toArray, List.set_cons_zero, List.set_cons_succ])
                      refine AnyS.done (by kernel_rfl) ?_ _
                      clear hU
                      have HM10 := Lib.hid hM10
                      clear hM10
                      go_wp2_with fail
                      refine region_A (fun W => W.cell? ⟨bN, fr, none⟩ = some (.int .i64 (nv : Int))) [10] 11 (fun W => Mg w.heap.size w W ((b13, (paM m.L 0 t.d (oN t) (oO t) k x (x + 1)).cells, 29) :: [(bN, ivs t.n (numI (R ++ [fr])), 2), (w.heap.size + 1, Try.zeroCells29.toList, 29), (w.heap.size, m.cells, 29)]) (⟨.slice (some ⟨g7, 0, none⟩) (R.length + 1) c7, 2, 1, (R.length + 1), i64s (natsI (R ++ [fr]))⟩ :: ⟨.slice (some ⟨gF, 0, none⟩) (finL t).length cF, 2, 1, (finL t).length, i64s (finL t)⟩ :: GR)) rfl HMX.out (HM10.out.drewN 1) (fun W h => by have := (h.at 1 rfl).cell' (ivs_get (numI (R ++ [fr])) HFR.out); rwa [HNV.out] at this) (fun W hM hU => ?_)
                      clear HM10
                      (refine AnyS.take (i := 0) rfl (by kernel_rfl) (by kernel_rfl) (by kernel_rfl) (by rfl) (fun _ _ _ h => h) (by rfl) (by intro w; go_simp; with_reducible rfl) hU (fun hU => ?_); (try simp only [Act.put, List.setIfInBounds_toArray, List.set_cons_zero, List.set_cons_succ]); refine AnyS.take (i := 1) rfl (by kernel_rfl) (by kernel_rfl) (by kernel_rfl) (by rfl) (fun _ _ _ h => h) (by rfl) (by intro w; go_simp; with_reducible rfl) hU (fun hU => ?_); (try simp only [Act.put, List.setIfInBounds_toArray, List.set_cons_zero, List.set_cons_succ]); refine AnyS.take (i := 2) rfl (by kernel_rfl) (by kernel_rfl) (by kernel_rfl) (by rfl) (fun _ _ _ h => h) (by rfl) (by intro w; go_simp; with_reducible rfl) hU (fun hU => ?_); (try simp only [Act.put, List.setIfInBounds_toArray, List.set_cons_zero, List.set_cons_succ]); refine AnyS.take (i := 3) rfl (by kernel_rfl) (by kernel_rfl) (by kernel_rfl) (by rfl) (fun _ _ _ h => h) (by rfl) (by intro w; go_simp; with_reducible rfl) hU (fun hU => ?_); (try simp only [Act.put, List.setIfInBounds_toArray, List.set_cons_zero, List.set_cons_succ]); refine AnyS.take (i := 4) rfl (by kernel_rfl) (by kernel_rfl) (by kernel_rfl) (by rfl) (fun _ _ _ h => h) (by rfl) (by intro w; go_simp; with_reducible rfl) hU (fun hU => ?_); (try simp only [Act.put, List.setIfInBounds_toArray, List.set_cons_zero, List.set_cons_succ]))
                      (refine AnyS.takeS (i := 5) rfl (by kernel_rfl) (by kernel_rfl) (by kernel_rfl) (by rfl) (by kernel_rfl) (by kernel_rfl) (fun _ _ _ h => h) (by rfl) (by intro W hSw; have h1 := hSw; clear hSw; go_simp; with_reducible rfl) hU (fun hU => ?_); (try simp only [Act.put, List.setIfInBounds_toArray, List.set_cons_zero, List.set_cons_succ]))
                      (refine AnyS.take (i := 6) rfl (by kernel_rfl) (by kernel_rfl) (by kernel_rfl) (by rfl) (fun _ _ _ h => h) (by rfl) (by intro w; go_simp; with_reducible rfl) hU (fun hU => ?_); (try simp only [Act.put, List.setIfInBounds_toArray, List.set_cons_zero, List.set_cons_succ]); refine AnyS.take (i := 7) rfl (by kernel_rfl) (by kernel_rfl) (by kernel_rfl) (by rfl) (fun _ _ _ h => h) (by rfl) (by intro w; go_simp; with_reducible rfl) hU (fun hU => ?_); (try simp only [Act.put, List.setIfInBounds_toArray, List.set_cons_zero, List.set_cons_succ]); refine AnyS.take (i := 8) rfl (by kernel_rfl) (by kernel_rfl) (by kernel_rfl) (by rfl) (fun _ _ _ h => h) (by rfl) (by intro w; go_simp; with_reducible rfl) hU (fun hU => ?_); (try simp only [Act.put, List.setIfInBounds_toArray, List.set_cons_zero, List.set_cons_succ]); refine AnyS.take (i := 9) rfl (by kernel_rfl) (by kernel_rfl) (by kernel_rfl) (by rfl) (fun _ _ _ h => h) (by rfl) (by intro w; go_simp; with_reducible rfl) hU (fun hU => ?_); (try simp only [Act.put, List.setIfInBounds_toArray, List.set_cons_zero, List.set_cons_succ]))
                      obtain ⟨d1, f1, hM10⟩ := HST2.out _ _ _ hM
                      (refine AnyS.branch (rs := [10]) (by kernel_rfl) (List.cons_ne_nil _ _) ?_; refine AllS.cons rfl ?_ AllS.nil; intro K hK)
                      go_simp
                      refine hK.out _ _ (.inr ⟨10, by simp, by rfl⟩) (fun hU => ?_)
                      clear hK K d1 f1 hM
                      (try simp only [Act.put, List.setIfInBounds_toArray, List.set_cons_zero, List.set_cons_succ])
                      refine AnyS.done (by kernel_rfl) ?_ _
                      clear hU
                      have HM10 := Lib.hid hM10
                      clear hM10
                      go_wp2_with fail
                      go_roundw
                      case rel => exact ⟨x + 1, by omega, by go_num, by rw [HRN.out, HRLEN.out]; exact HM10.out⟩
                      case measure => simp [intOf] <;> omega
                  · have hx' : x = t.d := by omega
                    subst hx'
                    rw [paM_row, ← HSTP.out] at hM
                    have j2 : ¬ ((t.d : Int) < (t.d : Int)) := by omega
                    have HM := Lib.hid hM
                    clear hM
                    go_wp2_with fail
                    go_roundw
                    case rel => exact ⟨k + 1, by omega, by go_num, HNL.out, HM.out⟩
                    case measure => simp [intOf] <;> omega
            · have hke : k = (bfsN t k).length := by omega
              have hEq : ordT t = bfsN t k := ordT_end HWF.out hn1 (by omega)
              rw [← hEq] at hke hM hlenB ⊢
              have h16 : ¬ 16 < (ordT t).length := by omega
              have HR := Lib.hid (HD.out.trans (mwT_ok (L := m.L) h16))
              subst hke
              have k1 : ¬ (((ordT t).length : Int) < ((ordT t).length : Int)) := by omega
              have c1 := (hM.mach 0 rfl).s
              have f1 := (hM.at 0 rfl).free 1
              have hM2 := hM.setCell 0 rfl 1 (.int .i64 ((ordT t).length : Int))
              rw [paM_states] at hM2
              simp only [List.set_cons_zero] at hM2
              have HGM := Lib.hid (gathM_ord m.L t)
              rw [← HGM.out] at hM2
              have hwM : (gathM m.L t (ordT t) fun r => (ordT t).idxOf (t.fin r)).Wf := by
                rw [HGM.out]
                exact paM_wf hwf.lb (by omega) (fun i z _ _ => Nat.le_trans (oN_le HWF.out hn1 i z) (by omega)) (fun i z _ hz => HOT.out _ _ (ordT_lt HWF.out hn1 i) hz)
              have hm1 := hM2.mach 0 rfl
              generalize gathM m.L t (ordT t) (fun r => (ordT t).idxOf (t.fin r)) = MM at *
              have HIM := Lib.hid (mach_infoT hwM)
              have HOM := Lib.hid (mach_ones MM)
              have ht := (hM2.at 2 rfl).there 0 MM.cells.length (by simp only; rw [zero_len, Mch.cells_length hwM]; omega)
              have hM3 := hM2.setAll 2 rfl (vs := MM.cells) (by rw [zero_len, Mch.cells_length hwM])
              have HBK := Lib.hid (hM3.at 2 rfl)
              have HM3 := Lib.hid hM3
              have HI6 : Hid ((Try.prog.info? 29).map (·.size) = some MM.cells.toArray.size) := HIM.out.trans (by rw [List.size_toArray])
              clear hM hM2 hM3 hokB hlenB h16 hEq
              have c1' : wr.cell? ⟨b13, 1, none⟩ = some (.int .i64 0) := by simpa [paM] using c1
              clear c1
              go_wp2_with (first | ((with_reducible refine st_row ?_ 29 (.tmp 4) (.tmp 118) ?_ (w.heap.size + 1) 0 MM.cells ?_ ?_ ht HIM.out HOM.out ?_); exact rfl; exact rfl; exact rfl; exact rfl) | ((with_reducible refine ld_mach ?_ (.tmp 13) ?_ b13 0 ?_ MM hm1 hwM ?_); exact rfl; exact rfl; exact rfl))
              refine bodyPost_ret (v := .tuple #[.agg MM.cells.toArray, .int .i64 0]) (results_ct Try.results119 _ _ (w.heap.size + 1) 29 MM.cells.toArray (0, 0) (.struct _) rfl HBK.out Try.underlying29 rfl HI6.out) rfl ?_
              rw [HR.out]
              exact ⟨HM3.out.below, rfl⟩
end Go.Proofs.Yteagecoiijhflaa
