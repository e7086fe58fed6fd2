import Derived.Test.YthgkkaifdlkciaaYKind12
import Derived.Test.YthgkkaifdlkciaaYKind08
/- l01Minimal. -/
namespace Go.Proofs.Ythgkkaifdlkciaa
open Go.RowKit
set_option linter.unusedVariables false
set_option linter.unusedSimpArgs false

theorem results_cc {P : Program} {fn : Func} {p q : Tmp} {ty ty2 : TypeId} (h : fn.results = #[.cell p ty, .cell q ty2]) (tmps : Array Value) (w : World) (g : Nat) (t : TypeId) (cs : Array Value) (fr : Nat × Nat) (d : TypeDesc)
    (hp : tmps.getD p undef = .pointer (some ⟨g, 0, none⟩)) (hg : w.heap[g]? = some (.cells cs t fr))
    (hu : P.underlying ty = some d) (hd : (match d with | .struct _ | .array _ _ => true | _ => false) = true) (hi : (P.info? ty).map (·.size) = some cs.size)
    (g2 : Nat) (t2 : TypeId) (cs2 : Array Value) (fr2 : Nat × Nat) (d2 : TypeDesc)
    (hp2 : tmps.getD q undef = .pointer (some ⟨g2, 0, none⟩)) (hg2 : w.heap[g2]? = some (.cells cs2 t2 fr2))
    (hu2 : P.underlying ty2 = some d2) (hd2 : (match d2 with | .struct _ | .array _ _ => true | _ => false) = true) (hi2 : (P.info? ty2).map (·.size) = some cs2.size) :
    (results fn tmps).run P w = .ok (.tuple #[.agg cs, .agg cs2]) w := by
  have hp' : tmps[p]?.getD undef = .pointer (some ⟨g, 0, none⟩) := by simpa using hp
  have hq' : tmps[q]?.getD undef = .pointer (some ⟨g2, 0, none⟩) := by simpa using hp2
  simp [results, h, hp', hq', asAddr, run_loadVar_row w g t ty cs fr d hg hu hd hi, run_loadVar_row w g2 t2 ty2 cs2 fr2 d2 hg2 hu2 hd2 hi2]
theorem act4 (A : Act) (i1 i2 i3 i4 : Nat) : A = { tmps := (((A.tmps.setIfInBounds i1 (A.tmps.getD i1 undef)).setIfInBounds i2 (A.tmps.getD i2 undef)).setIfInBounds i3 (A.tmps.getD i3 undef)).setIfInBounds i4 (A.tmps.getD i4 undef), defers := A.defers } := by
  simp only [set_self]
def prM (f1 f6 f7 f8 : Bool) (i : Nat) : Bool := (i == 1 && !f1) || (i == 6 && !f6) || (i == 7 && !f7) || (i == 8 && !f8)
/-- the machine while its states are counted -/
def stM (m : Mch) (q : Nat) : Mch := ⟨m.L, (m.tbl.rk q : Int), List.replicate 48 0, List.replicate 48 0⟩
theorem stM_wf {m : Mch} (hwf : m.Wf) {q : Nat} (hq : q ≤ 16) : (stM m q).Wf := by
  have := m.tbl.rk_le q
  refine ⟨by simp [stM], by simp [stM], fun i => ?_, fun i => ?_, hwf.lb, ?_⟩
  · simp only [stM, List.getElem?_replicate]; split <;> simp
  · simp only [stM, List.getElem?_replicate]; split <;> simp
  · simp only [stM]; omega
theorem stM_start (m : Mch) : (Try.zeroCells28.setIfInBounds 0 (.int .i64 m.L)) = (stM m 0).cells.toArray := by
  have h : Try.zeroCells28 = Try.zeroCells28.setIfInBounds 1 (.int .i64 0) := by kernel_rfl
  rw [h, Array.setIfInBounds_comm _ _ (by decide)]
  apply Array.toList_inj.1
  rw [zero98]; rfl
theorem stM_set (m : Mch) (q : Nat) : (stM m q).cells.set 1 (.int .i64 (m.tbl.rk (q + 1) : Int)) = (stM m (q + 1)).cells := rfl
theorem stM_end (m : Mch) : (stM m m.s).cells = (mqM m 0 0 0).cells := mqM_start.symm
def numU (m : Mch) (n i : Nat) : Nat := if i < n then m.tbl.num i else 0
theorem numU_set (m : Mch) (n : Nat) : updN (numU m n) n (m.tbl.num n) = numU m (n + 1) := by
  funext i
  unfold updN numU
  by_cases e : i = n
  · subst e; simp
  · rw [if_neg e]
    by_cases h : i < n
    · rw [if_pos h, if_pos (by omega)]
    · rw [if_neg h, if_neg (by omega)]
theorem nvs_zero16 (m : Mch) : z16a = nvs 16 (numU m 0) := by
  have : numU m 0 = fun _ => 0 := by funext i; simp [numU]
  rw [this]; rfl

set_option maxRecDepth 100000 in
set_option maxHeartbeats 1000000 in
theorem l01Minimal_any (m : Mch) (hwf : m.Wf) (hok : m.Ok) (w : World) :
    Calls Try.prog 70 #[.agg m.cells.toArray] w (Ret (.tuple #[.agg (minM m).cells.toArray, .agg (nvs 16 (numU m m.s)).toArray]) w) := by
  have hs16 := hok.s_le
  have hs1 := hok.s_pos
  have hl3 := hok.l_le
  have HMX := Lib.hid (show Try.prog.follows .mixedOrders = true by kernel_rfl)
  have HIM := Lib.hid (mach_info hwf)
  have HCA := Lib.hid (l01Classes_any m hwf hok)
  have hM0 := (((Mm.start w).alloc m.cells.toArray 28).alloc Try.zeroCells28 28).alloc #[.int .i64 0, .int .i64 0, .int .i64 0, .int .i64 0, .int .i64 0, .int .i64 0, .int .i64 0, .int .i64 0, .int .i64 0, .int .i64 0, .int .i64 0, .int .i64 0, .int .i64 0, .int .i64 0, .int .i64 0, .int .i64 0] 78
  simp only [World.size_alloc] at hM0
  have HM0 := Lib.hid hM0
  clear hM0
  go_enter Try.func70, Try.ntmps70
  go_wp2_with fail
  obtain ⟨Lo, hLo⟩ : ∃ Lo, Lo = [(w.heap.size + 1 + 1, z16a, 78), (w.heap.size + 1, Try.zeroCells28.toList, 28), (w.heap.size, m.cells, 28)] := ⟨_, rfl⟩
  have HLO := Lib.hid hLo
  have hM0 : Mm w.heap.size w (((w.alloc (.cells m.cells.toArray 28)).alloc (.cells Try.zeroCells28 28)).alloc (.cells #[.int .i64 0, .int .i64 0, .int .i64 0, .int .i64 0, .int .i64 0, .int .i64 0, .int .i64 0, .int .i64 0, .int .i64 0, .int .i64 0, .int .i64 0, .int .i64 0, .int .i64 0, .int .i64 0, .int .i64 0, .int .i64 0] 78)).drew Lo [] := by rw [hLo]; exact HM0.out.drew
  clear HM0
  have HPB : Hid (∀ W (f6 f7 f8 : Bool) x6 x7 x8, Mm w.heap.size w W (ext f6 x6 (ext f7 x7 (ext f8 x8 Lo))) [] → MAt W w.heap.size 0 m) := fun W f6 f7 f8 x6 x7 x8 h => (h.blk (w.heap.size, m.cells, 28) (ext_mem (ext_mem (ext_mem (by rw [HLO.out]; simp))))).2.all
  refine region_S (fun W => MAt W w.heap.size 0 m) [] 12 rfl HMX.out (HPB.out _ false false false (0, [], 0) (0, [], 0) (0, [], 0) hM0) (fun hU => ?_)
  obtain ⟨W, hW⟩ : ∃ W, W = (((w.alloc (.cells m.cells.toArray 28)).alloc (.cells Try.zeroCells28 28)).alloc (.cells #[.int .i64 0, .int .i64 0, .int .i64 0, .int .i64 0, .int .i64 0, .int .i64 0, .int .i64 0, .int .i64 0, .int .i64 0, .int .i64 0, .int .i64 0, .int .i64 0, .int .i64 0, .int .i64 0, .int .i64 0, .int .i64 0] 78)).drew := ⟨_, rfl⟩
  rw [← hW] at hU hM0 ⊢
  clear hW hLo
  (refine AnyS.takeS (i := 0) rfl (by kernel_rfl) (by kernel_rfl) (by kernel_rfl) (by rfl) (by kernel_rfl) (by kernel_rfl) (fun _ _ _ h => h) (by rfl) (fun W hW => run_ld Try.underlying28 rfl HIM.out (.tmp 1) rfl rfl hW) hU (fun hU => ?_); (try simp only [Act.put, List.setIfInBounds_toArray, List.set_cons_zero, List.set_cons_succ]))
  (refine AnyS.take (i := 2) rfl (by kernel_rfl) (by kernel_rfl) (by kernel_rfl) (by rfl) (fun _ _ _ h => h) (by rfl) (by intro w; go_simp; with_reducible rfl) hU (fun hU => ?_); (try simp only [Act.put, List.setIfInBounds_toArray, List.set_cons_zero, List.set_cons_succ]); refine AnyS.take (i := 3) rfl (by kernel_rfl) (by kernel_rfl) (by kernel_rfl) (by rfl) (fun _ _ _ h => h) (by rfl) (by intro w; go_simp; with_reducible rfl) hU (fun hU => ?_); (try simp only [Act.put, List.setIfInBounds_toArray, List.set_cons_zero, List.set_cons_succ]))
  (refine AnyS.takeS (i := 4) rfl (by kernel_rfl) (by kernel_rfl) (by kernel_rfl) (by rfl) (by kernel_rfl) (by kernel_rfl) (fun _ _ _ h => h) (by rfl) (by intro W hSw; have h1 := hSw.l; clear hSw; go_simp; with_reducible rfl) hU (fun hU => ?_); (try simp only [Act.put, List.setIfInBounds_toArray, List.set_cons_zero, List.set_cons_succ]))
  (refine AnyS.take (i := 5) rfl (by kernel_rfl) (by kernel_rfl) (by kernel_rfl) (by rfl) (fun _ _ _ h => h) (by rfl) (by intro w; go_simp; with_reducible rfl) hU (fun hU => ?_); (try simp only [Act.put, List.setIfInBounds_toArray, List.set_cons_zero, List.set_cons_succ]))
  refine AnyS.invA _ (fun A l ac W => ∃ (f1 f6 f7 f8 : Bool) (x11 x4 x5 x6 : Value) (b4 b5 b6 : Nat), l = #[true, f1, true, true, true, true, f6, f7, f8, false, false, false] ∧
    ac = { tmps := (((A.tmps.setIfInBounds 11 x11).setIfInBounds 4 x4).setIfInBounds 5 x5).setIfInBounds 6 x6, defers := A.defers } ∧
    (f1 = true → x11 = .agg (clsV m).toArray) ∧ (f6 = true → x4 = .pointer (some ⟨b4, 0, none⟩)) ∧ (f7 = true → x5 = .pointer (some ⟨b5, 0, none⟩)) ∧ (f8 = true → x6 = .pointer (some ⟨b6, 0, none⟩)) ∧
    Mm w.heap.size w W (ext f6 (b4, z16a, 78) (ext f7 (b5, z16a, 78) (ext f8 (b6, Try.zeroCells28.toList, 28) Lo))) []) (fun l a W h => by
      obtain ⟨_, _, _, _, _, _, _, _, _, _, _, _, _, _, _, _, _, h⟩ := h
      exact HPB.out _ _ _ _ _ _ _ h) ?_ _ _ _ ⟨false, false, false, false, _, _, _, _, 0, 0, 0, rfl, act4 _ 11 4 5 6, (fun h => by cases h), (fun h => by cases h), (fun h => by cases h), (fun h => by cases h), hM0⟩ (Nat.le_of_eq (by kernel_rfl))
  clear hU hM0
  rintro l ac W ⟨f1, f6, f7, f8, x11, x4, x5, x6, b4, b5, b6, rfl, rfl, h11, h4, h5, h6, hM⟩
  (try simp only [List.setIfInBounds_toArray, List.set_cons_zero, List.set_cons_succ])
  by_cases hall : (f1 && f6 && f7 && f8) = true
  case neg =>
    --<
    right
    refine ⟨?_, ?_⟩
    · clear h11 h4 h5 h6 hM
      cases f1 <;> cases f6 <;> cases f7 <;> cases f8 <;> first | (exact absurd rfl hall) | exact ready_ne (by kernel_rfl)
    · intro q hq
      have hmem : prM f1 f6 f7 f8 q = true := by
        clear h11 h4 h5 h6 hM
        cases f1 <;> cases f6 <;> cases f7 <;> cases f8 <;> first | (exact absurd rfl hall) | exact all_mem (p := prM _ _ _ _) hq (by kernel_rfl)
      clear hq hall
      simp only [prM, Bool.or_eq_true, Bool.and_eq_true, beq_iff_eq, Bool.not_eq_true'] at hmem
      have HM := Lib.hid hM
      have H11 := Lib.hid h11
      have H4 := Lib.hid h4
      have H5 := Lib.hid h5
      have H6 := Lib.hid h6
      clear hM h11 h4 h5 h6
      rcases hmem with ((⟨rfl, rfl⟩ | ⟨rfl, rfl⟩) | ⟨rfl, rfl⟩) | ⟨rfl, rfl⟩
      · refine wpOp_step rfl (fun K hK => ?_)
        have HK := Lib.hid hK
        clear hK
        go_simp
        refine (HCA.out _).mono ?_
        rintro e W' ⟨rfl, hb⟩
        (try simp only [Act.put, List.setIfInBounds_toArray, List.set_cons_zero, List.set_cons_succ])
        exact HK.out _ _ ⟨true, f6, f7, f8, _, x4, x5, x6, b4, b5, b6, rfl, rfl, (fun _ => rfl), H4.out, H5.out, H6.out, HM.out.call hb⟩
      · refine wpOp_step rfl (fun K hK => ?_)
        have HK := Lib.hid hK
        clear hK
        go_simp
        exact HK.out _ _ ⟨f1, true, f7, f8, x11, _, x5, x6, W.heap.size, b5, b6, rfl, rfl, H11.out, (fun _ => rfl), H5.out, H6.out, HM.out.alloc z16a.toArray 78⟩
      · refine wpOp_step rfl (fun K hK => ?_)
        have HK := Lib.hid hK
        clear hK
        go_simp
        exact HK.out _ _ ⟨f1, f6, true, f8, x11, x4, _, x6, b4, W.heap.size, b6, rfl, rfl, H11.out, H4.out, (fun _ => rfl), H6.out, (HM.out.alloc z16a.toArray 78).permL (ext_swap f6 _ _ _)⟩
      · refine wpOp_step rfl (fun K hK => ?_)
        have HK := Lib.hid hK
        clear hK
        go_simp
        exact HK.out _ _ ⟨f1, f6, f7, true, x11, x4, x5, _, b4, b5, W.heap.size, rfl, rfl, H11.out, H4.out, H5.out, (fun _ => rfl), (HM.out.alloc Try.zeroCells28 28).permL ((ext_swap f6 _ _ _).trans (ext_cong f6 _ (ext_swap f7 _ _ _)))⟩
    -->
  simp only [Bool.and_eq_true] at hall
  obtain ⟨⟨⟨rfl, rfl⟩, rfl⟩, rfl⟩ := hall
  obtain rfl := h11 rfl
  obtain rfl := h4 rfl
  obtain rfl := h5 rfl
  obtain rfl := h6 rfl
  clear h11 h4 h5 h6
  left
  intro n' hn'
  obtain ⟨n', rfl⟩ : ∃ n2, n' = n2 + 3 := ⟨n' - 3, by have h3 : leftN 12 #[true, true, true, true, true, true, true, true, true, false, false, false] = 3 := (by kernel_rfl); have h4 : leftN 12 #[true, true, true, true, true, true, true, true, true, false, false, false] ≤ n' := hn'; omega⟩
  clear hn'
  have hM : Mm w.heap.size w W [(b4, z16a, 78), (b5, z16a, 78), (b6, Try.zeroCells28.toList, 28), (w.heap.size + 1 + 1, z16a, 78), (w.heap.size + 1, Try.zeroCells28.toList, 28), (w.heap.size, m.cells, 28)] [] := by
    rw [HLO.out] at hM; exact hM
  clear HCA HPB HLO
  have hU : Upto (fun W => MAt W w.heap.size 0 m) [] #[true, true, true, true, true, true, true, true, true, false, false, false] W := .inl (hM.mach 5 rfl)
  have ht := (hM.at 0 rfl).there 0 (clsV m).length (by simp [cls_len, z16a])
  have hM1 := hM.setAll 0 rfl (vs := clsV m) (by simp [cls_len, z16a])
  simp only [List.set_cons_zero, List.set_cons_succ] at hM1
  have hBl := hM1.mach 5 rfl
  (refine AnyS.branch (rs := [9]) (by kernel_rfl) (List.cons_ne_nil _ _) ?_; refine AllS.cons rfl ?_ AllS.nil; intro K hK)
  refine ite_of (by kernel_rfl) ?_
  refine wp_st 78 (.tmp 4) (.tmp 11) rfl b4 0 (clsV m) rfl rfl ht (cls_info m) (cls_ones _) ?_
  refine hK.out _ _ (.inl hBl) (fun hU => ?_)
  clear hK K ht hM hBl
  (try simp only [Act.put, List.setIfInBounds_toArray, List.set_cons_zero, List.set_cons_succ])
  generalize W.setCells b4 0 (clsV m) = W1 at *
  have ht := (hM1.at 1 rfl).there 0 (nvs 16 (numU m 0)).length (by simp [nvs_len, z16a])
  have hM2 := hM1.setAll 1 rfl (vs := nvs 16 (numU m 0)) (by simp [nvs_len, z16a])
  simp only [List.set_cons_zero, List.set_cons_succ] at hM2
  have hBl := hM2.mach 5 rfl
  (refine AnyS.branch (rs := [10]) (by kernel_rfl) (List.cons_ne_nil _ _) ?_; refine AllS.cons rfl ?_ AllS.nil; intro K hK)
  refine ite_of (by kernel_rfl) ?_
  refine wp_st 78 (.tmp 5) (.tmp 12) rfl b5 0 (nvs 16 (numU m 0)) rfl (congrArg (fun l : List Value => Value.agg l.toArray) (nvs_zero16 m)) ht (nvs16_info _) (nvs_one 16 _) ?_
  refine hK.out _ _ (.inl hBl) (fun hU => ?_)
  clear hK K ht hM1 hBl
  (try simp only [Act.put, List.setIfInBounds_toArray, List.set_cons_zero, List.set_cons_succ])
  generalize W1.setCells b5 0 (nvs 16 (numU m 0)) = W2 at *
  have hw0 := stM_wf hwf (q := 0) (by omega)
  have hlen := Mch.cells_length hw0
  have ht := (hM2.at 2 rfl).there 0 (stM m 0).cells.length (by simp only; rw [zero_len, hlen]; omega)
  have hM3 := hM2.setAll 2 rfl (vs := (stM m 0).cells) (by rw [zero_len, hlen])
  simp only [List.set_cons_zero, List.set_cons_succ] at hM3
  have hBl := hM3.mach 5 rfl
  (refine AnyS.branch (rs := [11]) (by kernel_rfl) (List.cons_ne_nil _ _) ?_; refine AllS.cons rfl ?_ AllS.nil; intro K hK)
  refine ite_of (by kernel_rfl) ?_
  refine wp_st 28 (.tmp 6) (.tmp 15) rfl b6 0 (stM m 0).cells rfl (congrArg Value.agg (stM_start m)) ht (mach_infoT hw0) (mach_ones _) ?_
  refine hK.out _ _ (.inl hBl) (fun hU => ?_)
  clear hK K ht hM2 hBl hw0 hlen
  (try simp only [Act.put, List.setIfInBounds_toArray, List.set_cons_zero, List.set_cons_succ])
  refine AnyS.done (by kernel_rfl) ?_ _
  clear hU
  generalize W2.setCells b6 0 (stM m 0).cells = W3 at *
  have HM3 := Lib.hid hM3
  clear hM3
  go_wp2_with fail
  go_loopw [7] (fun qv wr => ∃ q : Nat, q ≤ m.s ∧ qv = .int .i64 (q : Int) ∧ Mm w.heap.size w wr [(b4, clsV m, 78), (b5, nvs 16 (numU m q), 78), (b6, (stM m q).cells, 28), (w.heap.size + 1 + 1, z16a, 78), (w.heap.size + 1, Try.zeroCells28.toList, 28), (w.heap.size, m.cells, 28)] []) (fun qv _ => m.s - (intOf qv).toNat)
  case atStart => exact ⟨0, Nat.zero_le _, rfl, HM3.out⟩
  case round =>
    clear HM3
    obtain ⟨q, hq, rfl, hM⟩ := hrel
    have eq : IntKind.i64.wrap ((q : Int) + 1) = (q : Int) + 1 := IntWalk.i64_in _ (by omega)
    have cs := (hM.mach 5 rfl).s
    rw [hok.S_eq] at cs
    by_cases hlt : q < m.s
    · have q1 : (0 : Int) ≤ (q : Int) := by omega
      have q2 : (q : Int) < 16 := by omega
      have q3 : (q : Int) < (m.s : Int) := by omega
      have cc := (hM.at 0 rfl).cell' (nvs_get (fun q => if q < m.s then m.tbl.fin q else 0) (q := q) (by omega))
      rw [if_pos hlt] at cc
      have hfl := m.tbl.fin_le q
      have hrk := m.tbl.rk_le q
      have HRS := Lib.hid (m.tbl.rk_succ q)
      have hwq := stM_wf hwf (q := q) (by omega)
      have HO := Lib.hid (num_own (m := m) (q := q))
      have HF := Lib.hid (num_fin (m := m) q)
      have HNS := Lib.hid (numU_set m q)
      have fq := (hM.at 1 rfl).free q
      have cq := (hM.at 1 rfl).cell' (nvs_get (numU m q) (q := q) (by omega))
      by_cases hf : m.tbl.fin q = q
      · have HRS2 : Hid (m.tbl.rk (q + 1) = m.tbl.rk q + 1) := by show _ = _; rw [HRS.out, if_pos hf]
        have c6' := (hM.mach 2 rfl).s
        have f6 := (hM.at 2 rfl).free 1
        have er : IntKind.i64.wrap ((m.tbl.rk q : Int) + 1) = (m.tbl.rk q : Int) + 1 := IntWalk.i64_in _ (by omega)
        have hM2 := hM.setCell 1 rfl q (.int .i64 (m.tbl.num q : Int))
        simp only [List.set_cons_zero, List.set_cons_succ] at hM2
        rw [nvs_set _ _ (by omega), HNS.out, HO.out hf] at hM2
        have hM4 := hM2.setCell 2 rfl 1 (.int .i64 (m.tbl.rk (q + 1) : Int))
        simp only [List.set_cons_zero, List.set_cons_succ] at hM4
        rw [stM_set, HRS2.out, Int.natCast_add, Int.natCast_one] at hM4
        have c7' := (hM2.mach 2 rfl).s
        have f7 := (hM2.at 2 rfl).free 1
        have HM4 := Lib.hid hM4
        rw [hf] at cc
        have c6 : wr.cell? ⟨b6, 1, none⟩ = some (.int .i64 (m.tbl.rk q : Int)) := by simpa [stM] using c6'
        have c7 : (wr.setCell ⟨b5, q, none⟩ (.int .i64 (m.tbl.rk q : Int))).cell? ⟨b6, 1, none⟩ = some (.int .i64 (m.tbl.rk q : Int)) := by simpa [stM] using c7'
        have j1 : ((q : Int) == (q : Int)) = true := by simp
        clear hM hM2 hM4 HRS HO HF HNS hf hwq hfl HRS2 c6' c7'
        generalize m.tbl.rk q = rq at *
        generalize numU m q q = old at *
        go_wp2_with fail
        go_roundw
        case rel => exact ⟨q + 1, by omega, by go_num, HM4.out⟩
        case measure => simp [intOf] <;> omega
      · have HRS2 : Hid (m.tbl.rk (q + 1) = m.tbl.rk q) := by show _ = _; rw [HRS.out, if_neg hf]; rfl
        have HST : Hid (stM m (q + 1) = stM m q) := by show _ = _; simp only [stM]; rw [HRS2.out]
        have cf := (hM.at 1 rfl).cell' (nvs_get (numU m q) (q := m.tbl.fin q) (by omega))
        have hnf : numU m q (m.tbl.fin q) = m.tbl.num q := by rw [numU, if_pos (by omega), HF.out]
        rw [hnf] at cf
        have hM2 := hM.setCell 1 rfl q (.int .i64 (m.tbl.num q : Int))
        simp only [List.set_cons_zero, List.set_cons_succ] at hM2
        rw [nvs_set _ _ (by omega), HNS.out, ← HST.out] at hM2
        have HM2 := Lib.hid hM2
        have j1 : ((m.tbl.fin q : Int) == (q : Int)) = false := by rw [beq_eq_false_iff_ne]; omega
        have j2 : (0 : Int) ≤ (m.tbl.fin q : Int) := by omega
        have j3 : (m.tbl.fin q : Int) < 16 := by omega
        clear hM hM2 HRS HO HF HNS hf hwq hfl HRS2 HST hnf
        generalize m.tbl.fin q = fq at *
        generalize numU m q q = old at *
        generalize m.tbl.num q = nq at *
        go_wp2_with fail
        go_roundw
        case rel => exact ⟨q + 1, by omega, by go_num, HM2.out⟩
        case measure => simp [intOf] <;> omega
    · obtain rfl : q = m.s := by omega
      have q3 : ¬ ((m.s : Int) < (m.s : Int)) := by omega
      rw [stM_end] at hM
      have HM := Lib.hid hM
      clear hM
      go_wp2_with fail
      clear cs
      go_loopw [8] (fun qv wr => ∃ q : Nat, q ≤ m.s ∧ qv = .int .i64 (q : Int) ∧ Mm w.heap.size w wr [(b4, clsV m, 78), (b5, nvs 16 (numU m m.s), 78), (b6, (mqM m q 0 0).cells, 28), (w.heap.size + 1 + 1, z16a, 78), (w.heap.size + 1, Try.zeroCells28.toList, 28), (w.heap.size, m.cells, 28)] []) (fun qv _ => m.s - (intOf qv).toNat)
      case atStart => exact ⟨0, Nat.zero_le _, rfl, HM.out⟩
      case round =>
        clear HM q3 hq eq
        obtain ⟨q, hq, rfl, hM⟩ := hrel
        have eq : IntKind.i64.wrap ((q : Int) + 1) = (q : Int) + 1 := IntWalk.i64_in _ (by omega)
        have cs := (hM.mach 5 rfl).s
        rw [hok.S_eq] at cs
        by_cases hlt : q < m.s
        · have q1 : (0 : Int) ≤ (q : Int) := by omega
          have q2 : (q : Int) < 16 := by omega
          have q3 : (q : Int) < (m.s : Int) := by omega
          have HM := Lib.hid hM
          clear hM
          go_wp2_with fail
          clear cs
          go_loopw [9] (fun xv wr => ∃ x : Nat, x ≤ m.l ∧ xv = .int .i64 (x : Int) ∧ Mm w.heap.size w wr [(b4, clsV m, 78), (b5, nvs 16 (numU m m.s), 78), (b6, (mqM m q x x).cells, 28), (w.heap.size + 1 + 1, z16a, 78), (w.heap.size + 1, Try.zeroCells28.toList, 28), (w.heap.size, m.cells, 28)] []) (fun xv _ => m.l - (intOf xv).toNat)
          case atStart => exact ⟨0, Nat.zero_le _, rfl, HM.out⟩
          case round =>
            clear HM
            obtain ⟨x, hx, rfl, hM⟩ := hrel
            have ex : IntKind.i64.wrap ((x : Int) + 1) = (x : Int) + 1 := IntWalk.i64_in _ (by omega)
            have cl := (hM.mach 5 rfl).l
            rw [hok.L_eq] at cl
            by_cases hxl : x < m.l
            · have x1 : (0 : Int) ≤ (x : Int) := by omega
              have x2 : (x : Int) < 3 := by omega
              have x3 : (x : Int) < (m.l : Int) := by omega
              have hn := hok.nn_lt hwf hlt hxl
              have ho := hok.on_lt hwf hlt hxl
              have hnq := Tbl.num_lt (t := m.tbl) hlt
              have hnn := Tbl.num_lt (t := m.tbl) hn
              have h16 := rk_le16 hok
              change _ < m.tbl.rk m.s at hnq hnn
              have hw1 := mqM_wf hok hwf (q := q) (x := x) (z := x) (.inl hlt)
              have hw2 := mqM_wf hok hwf (q := q) (x := x) (z := x + 1) (.inl hlt)
              have HS1 : Hid (∀ W, Mm w.heap.size w W [(b4, clsV m, 78), (b5, nvs 16 (numU m m.s), 78), (b6, (mqM m q x x).cells, 28), (w.heap.size + 1 + 1, z16a, 78), (w.heap.size + 1, Try.zeroCells28.toList, 28), (w.heap.size, m.cells, 28)] [] → (W.cell? ⟨b5, q, none⟩ = some (.int .i64 (m.tbl.num q : Int)) ∧ W.cell? ⟨w.heap.size, 50 + q * 3 + x, none⟩ = some (.int .u8 (m.on q x : Int))) ∧
                  W.cell? ⟨b6, 50 + m.tbl.num q * 3 + x, none⟩ = some (.int .u8 ((mqM m q x x).o (m.tbl.num q) x)) ∧ W.frozen? ⟨b6, 50 + m.tbl.num q * 3 + x, none⟩ = false ∧
                  Mm w.heap.size w (W.setCell ⟨b6, 50 + m.tbl.num q * 3 + x, none⟩ (.int .u8 (m.on q x : Int))) [(b4, clsV m, 78), (b5, nvs 16 (numU m m.s), 78), (b6, (mqM m q x (x + 1)).cells, 28), (w.heap.size + 1 + 1, z16a, 78), (w.heap.size + 1, Try.zeroCells28.toList, 28), (w.heap.size, m.cells, 28)] []) := fun W h => by
                have d1 := (h.at 1 rfl).cell' (nvs_get (numU m m.s) (q := q) (by omega))
                rw [numU, if_pos hlt] at d1
                have d2 := (h.mach 5 rfl).oo hwf (q := q) (x := x) (by omega) (by omega)
                rw [hok.o_eq hwf hlt hxl] at d2
                have d3 := (h.mach 2 rfl).oo hw1 (q := m.tbl.num q) (x := x) (by omega) (by omega)
                have f3 := (h.at 2 rfl).free (50 + m.tbl.num q * 3 + x)
                have h2 := h.setCell 2 rfl (50 + m.tbl.num q * 3 + x) (.int .u8 (m.on q x : Int))
                simp only [List.set_cons_zero, List.set_cons_succ] at h2
                rw [mqM_setO hok hwf hlt hxl] at h2
                exact ⟨⟨d1, by simpa using d2⟩, by simpa using d3, f3, h2⟩
              have HS2 : Hid (∀ W, Mm w.heap.size w W [(b4, clsV m, 78), (b5, nvs 16 (numU m m.s), 78), (b6, (mqM m q x (x + 1)).cells, 28), (w.heap.size + 1 + 1, z16a, 78), (w.heap.size + 1, Try.zeroCells28.toList, 28), (w.heap.size, m.cells, 28)] [] → (W.cell? ⟨b5, q, none⟩ = some (.int .i64 (m.tbl.num q : Int)) ∧ W.cell? ⟨w.heap.size, 2 + q * 3 + x, none⟩ = some (.int .u8 (m.nn q x : Int)) ∧ W.cell? ⟨b5, m.nn q x, none⟩ = some (.int .i64 (m.tbl.num (m.nn q x) : Int))) ∧
                  W.cell? ⟨b6, 2 + m.tbl.num q * 3 + x, none⟩ = some (.int .u8 ((mqM m q x (x + 1)).n (m.tbl.num q) x)) ∧ W.frozen? ⟨b6, 2 + m.tbl.num q * 3 + x, none⟩ = false ∧
                  Mm w.heap.size w (W.setCell ⟨b6, 2 + m.tbl.num q * 3 + x, none⟩ (.int .u8 (m.tbl.num (m.nn q x) : Int))) [(b4, clsV m, 78), (b5, nvs 16 (numU m m.s), 78), (b6, (mqM m q (x + 1) (x + 1)).cells, 28), (w.heap.size + 1 + 1, z16a, 78), (w.heap.size + 1, Try.zeroCells28.toList, 28), (w.heap.size, m.cells, 28)] []) := fun W h => by
                have d1 := (h.at 1 rfl).cell' (nvs_get (numU m m.s) (q := q) (by omega))
                rw [numU, if_pos hlt] at d1
                have d4 := (h.at 1 rfl).cell' (nvs_get (numU m m.s) (q := m.nn q x) (by omega))
                rw [numU, if_pos hn] at d4
                have d2 := (h.mach 5 rfl).nn hwf (q := q) (x := x) (by omega) (by omega)
                rw [hok.n_eq hwf hlt hxl] at d2
                have d3 := (h.mach 2 rfl).nn hw2 (q := m.tbl.num q) (x := x) (by omega) (by omega)
                have f3 := (h.at 2 rfl).free (2 + m.tbl.num q * 3 + x)
                have h2 := h.setCell 2 rfl (2 + m.tbl.num q * 3 + x) (.int .u8 (m.tbl.num (m.nn q x) : Int))
                simp only [List.set_cons_zero, List.set_cons_succ] at h2
                rw [mqM_setN hok hwf hlt hxl] at h2
                exact ⟨⟨d1, by simpa using d2, d4⟩, by simpa using d3, f3, h2⟩
              have n1 : (0 : Int) ≤ (m.tbl.num q : Int) := by omega
              have n2 : (m.tbl.num q : Int) < 16 := by omega
              have n3 : (0 : Int) ≤ (m.nn q x : Int) := by omega
              have n4 : (m.nn q x : Int) < 16 := by omega
              have u1 : IntKind.u8.wrap (m.tbl.num (m.nn q x) : Int) = (m.tbl.num (m.nn q x) : Int) := IntWalk.u8_in _ ⟨by omega, by omega⟩
              clear hn ho hnq hnn h16 hw1 hw2
              have hMd := hM.drew
              have HM := Lib.hid hM
              clear hM
              generalize m.tbl.num (m.nn q x) = nv at *
              generalize (mqM m q x x).o (m.tbl.num q) x = oa at *
              generalize (mqM m q x (x + 1)).n (m.tbl.num q) x = na at *
              generalize m.tbl.num q = nq at *
              generalize m.on q x = oq at *
              generalize m.nn q x = xq at *
              go_wp2_with fail
              clear cl
              refine region_S (fun W => W.cell? ⟨b5, q, none⟩ = some (.int .i64 (nq : Int)) ∧ W.cell? ⟨w.heap.size, 50 + q * 3 + x, none⟩ = some (.int .u8 (oq : Int))) [13] 14 rfl HMX.out (HS1.out _ hMd).1 (fun hU => ?_)
              obtain ⟨W, hW⟩ : ∃ W, W = wr.drew := ⟨_, rfl⟩
              rw [← hW] at hU hMd ⊢
              clear hW HM
              (refine AnyS.take (i := 0) rfl (by kernel_rfl) (by kernel_rfl) (by kernel_rfl) (by rfl) (fun _ _ _ h => h) (by rfl) (by intro w; go_simp; with_reducible rfl) hU (fun hU => ?_); (try simp only [Act.put, List.setIfInBounds_toArray, List.set_cons_zero, List.set_cons_succ]); refine AnyS.take (i := 1) rfl (by kernel_rfl) (by kernel_rfl) (by kernel_rfl) (by rfl) (fun _ _ _ h => h) (by rfl) (by intro w; go_simp; with_reducible rfl) hU (fun hU => ?_); (try simp only [Act.put, List.setIfInBounds_toArray, List.set_cons_zero, List.set_cons_succ]))
              (refine AnyS.takeS (i := 2) rfl (by kernel_rfl) (by kernel_rfl) (by kernel_rfl) (by rfl) (by kernel_rfl) (by kernel_rfl) (fun _ _ _ h => h) (by rfl) (by intro W hSw; have h1 := hSw.1; clear hSw; go_simp; with_reducible rfl) hU (fun hU => ?_); (try simp only [Act.put, List.setIfInBounds_toArray, List.set_cons_zero, List.set_cons_succ]))
              (refine AnyS.take (i := 3) rfl (by kernel_rfl) (by kernel_rfl) (by kernel_rfl) (by rfl) (fun _ _ _ h => h) (by rfl) (by intro w; go_simp; with_reducible rfl) hU (fun hU => ?_); (try simp only [Act.put, List.setIfInBounds_toArray, List.set_cons_zero, List.set_cons_succ]); refine AnyS.take (i := 4) rfl (by kernel_rfl) (by kernel_rfl) (by kernel_rfl) (by rfl) (fun _ _ _ h => h) (by rfl) (by intro w; go_simp; with_reducible rfl) hU (fun hU => ?_); (try simp only [Act.put, List.setIfInBounds_toArray, List.set_cons_zero, List.set_cons_succ]); refine AnyS.take (i := 5) rfl (by kernel_rfl) (by kernel_rfl) (by kernel_rfl) (by rfl) (fun _ _ _ h => h) (by rfl) (by intro w; go_simp; with_reducible rfl) hU (fun hU => ?_); (try simp only [Act.put, List.setIfInBounds_toArray, List.set_cons_zero, List.set_cons_succ]); refine AnyS.take (i := 6) rfl (by kernel_rfl) (by kernel_rfl) (by kernel_rfl) (by rfl) (fun _ _ _ h => h) (by rfl) (by intro w; go_simp; with_reducible rfl) hU (fun hU => ?_); (try simp only [Act.put, List.setIfInBounds_toArray, List.set_cons_zero, List.set_cons_succ]); refine AnyS.take (i := 7) rfl (by kernel_rfl) (by kernel_rfl) (by kernel_rfl) (by rfl) (fun _ _ _ h => h) (by rfl) (by intro w; go_simp; with_reducible rfl) hU (fun hU => ?_); (try simp only [Act.put, List.setIfInBounds_toArray, List.set_cons_zero, List.set_cons_succ]); refine AnyS.take (i := 8) rfl (by kernel_rfl) (by kernel_rfl) (by kernel_rfl) (by rfl) (fun _ _ _ h => h) (by rfl) (by intro w; go_simp; with_reducible rfl) hU (fun hU => ?_); (try simp only [Act.put, List.setIfInBounds_toArray, List.set_cons_zero, List.set_cons_succ]))
              (refine AnyS.takeS (i := 9) rfl (by kernel_rfl) (by kernel_rfl) (by kernel_rfl) (by rfl) (by kernel_rfl) (by kernel_rfl) (fun _ _ _ h => h) (by rfl) (by intro W hSw; have h1 := hSw.2; clear hSw; go_simp; with_reducible rfl) hU (fun hU => ?_); (try simp only [Act.put, List.setIfInBounds_toArray, List.set_cons_zero, List.set_cons_succ]))
              (refine AnyS.take (i := 10) rfl (by kernel_rfl) (by kernel_rfl) (by kernel_rfl) (by rfl) (fun _ _ _ h => h) (by rfl) (by intro w; go_simp; with_reducible rfl) hU (fun hU => ?_); (try simp only [Act.put, List.setIfInBounds_toArray, List.set_cons_zero, List.set_cons_succ]); refine AnyS.take (i := 11) rfl (by kernel_rfl) (by kernel_rfl) (by kernel_rfl) (by rfl) (fun _ _ _ h => h) (by rfl) (by intro w; go_simp; with_reducible rfl) hU (fun hU => ?_); (try simp only [Act.put, List.setIfInBounds_toArray, List.set_cons_zero, List.set_cons_succ]); refine AnyS.take (i := 12) rfl (by kernel_rfl) (by kernel_rfl) (by kernel_rfl) (by rfl) (fun _ _ _ h => h) (by rfl) (by intro w; go_simp; with_reducible rfl) hU (fun hU => ?_); (try simp only [Act.put, List.setIfInBounds_toArray, List.set_cons_zero, List.set_cons_succ]))
              obtain ⟨-, d1, f1, hM2⟩ := HS1.out _ hMd
              (refine AnyS.branch (rs := [13]) (by kernel_rfl) (List.cons_ne_nil _ _) ?_; refine AllS.cons rfl ?_ AllS.nil; intro K hK)
              go_simp
              refine hK.out _ _ (.inr ⟨13, by simp, by rfl⟩) (fun hU => ?_)
              clear hK K d1 f1 hMd
              (try simp only [Act.put, List.setIfInBounds_toArray, List.set_cons_zero, List.set_cons_succ])
              refine AnyS.done (by kernel_rfl) ?_ _
              clear hU HS1
              obtain ⟨W2, hW2⟩ : ∃ W2, W2 = W.setCell ⟨b6, 50 + nq * 3 + x, none⟩ (.int .u8 (oq : Int)) := ⟨_, rfl⟩
              rw [← hW2] at hM2 ⊢
              clear hW2
              go_wp2_with fail
              have hM2d := hM2.drew
              refine region_S (fun W => W.cell? ⟨b5, q, none⟩ = some (.int .i64 (nq : Int)) ∧ W.cell? ⟨w.heap.size, 2 + q * 3 + x, none⟩ = some (.int .u8 (xq : Int)) ∧ W.cell? ⟨b5, xq, none⟩ = some (.int .i64 (nv : Int))) [16] 17 rfl HMX.out (HS2.out _ hM2d).1 (fun hU => ?_)
              obtain ⟨W3, hW⟩ : ∃ W3, W3 = W2.drew := ⟨_, rfl⟩
              rw [← hW] at hU hM2d ⊢
              clear hW hM2
              (refine AnyS.take (i := 0) rfl (by kernel_rfl) (by kernel_rfl) (by kernel_rfl) (by rfl) (fun _ _ _ h => h) (by rfl) (by intro w; go_simp; with_reducible rfl) hU (fun hU => ?_); (try simp only [Act.put, List.setIfInBounds_toArray, List.set_cons_zero, List.set_cons_succ]); refine AnyS.take (i := 1) rfl (by kernel_rfl) (by kernel_rfl) (by kernel_rfl) (by rfl) (fun _ _ _ h => h) (by rfl) (by intro w; go_simp; with_reducible rfl) hU (fun hU => ?_); (try simp only [Act.put, List.setIfInBounds_toArray, List.set_cons_zero, List.set_cons_succ]))
              (refine AnyS.takeS (i := 2) rfl (by kernel_rfl) (by kernel_rfl) (by kernel_rfl) (by rfl) (by kernel_rfl) (by kernel_rfl) (fun _ _ _ h => h) (by rfl) (by intro W hSw; have h1 := hSw.1; clear hSw; go_simp; with_reducible rfl) hU (fun hU => ?_); (try simp only [Act.put, List.setIfInBounds_toArray, List.set_cons_zero, List.set_cons_succ]))
              (refine AnyS.take (i := 3) rfl (by kernel_rfl) (by kernel_rfl) (by kernel_rfl) (by rfl) (fun _ _ _ h => h) (by rfl) (by intro w; go_simp; with_reducible rfl) hU (fun hU => ?_); (try simp only [Act.put, List.setIfInBounds_toArray, List.set_cons_zero, List.set_cons_succ]); refine AnyS.take (i := 4) rfl (by kernel_rfl) (by kernel_rfl) (by kernel_rfl) (by rfl) (fun _ _ _ h => h) (by rfl) (by intro w; go_simp; with_reducible rfl) hU (fun hU => ?_); (try simp only [Act.put, List.setIfInBounds_toArray, List.set_cons_zero, List.set_cons_succ]); refine AnyS.take (i := 5) rfl (by kernel_rfl) (by kernel_rfl) (by kernel_rfl) (by rfl) (fun _ _ _ h => h) (by rfl) (by intro w; go_simp; with_reducible rfl) hU (fun hU => ?_); (try simp only [Act.put, List.setIfInBounds_toArray, List.set_cons_zero, List.set_cons_succ]); refine AnyS.take (i := 6) rfl (by kernel_rfl) (by kernel_rfl) (by kernel_rfl) (by rfl) (fun _ _ _ h => h) (by rfl) (by intro w; go_simp; with_reducible rfl) hU (fun hU => ?_); (try simp only [Act.put, List.setIfInBounds_toArray, List.set_cons_zero, List.set_cons_succ]); refine AnyS.take (i := 7) rfl (by kernel_rfl) (by kernel_rfl) (by kernel_rfl) (by rfl) (fun _ _ _ h => h) (by rfl) (by intro w; go_simp; with_reducible rfl) hU (fun hU => ?_); (try simp only [Act.put, List.setIfInBounds_toArray, List.set_cons_zero, List.set_cons_succ]); refine AnyS.take (i := 8) rfl (by kernel_rfl) (by kernel_rfl) (by kernel_rfl) (by rfl) (fun _ _ _ h => h) (by rfl) (by intro w; go_simp; with_reducible rfl) hU (fun hU => ?_); (try simp only [Act.put, List.setIfInBounds_toArray, List.set_cons_zero, List.set_cons_succ]))
              (refine AnyS.takeS (i := 9) rfl (by kernel_rfl) (by kernel_rfl) (by kernel_rfl) (by rfl) (by kernel_rfl) (by kernel_rfl) (fun _ _ _ h => h) (by rfl) (by intro W hSw; have h1 := hSw.2.1; clear hSw; go_simp; with_reducible rfl) hU (fun hU => ?_); (try simp only [Act.put, List.setIfInBounds_toArray, List.set_cons_zero, List.set_cons_succ]))
              (refine AnyS.take (i := 10) rfl (by kernel_rfl) (by kernel_rfl) (by kernel_rfl) (by rfl) (fun _ _ _ h => h) (by rfl) (by intro w; go_simp; with_reducible rfl) hU (fun hU => ?_); (try simp only [Act.put, List.setIfInBounds_toArray, List.set_cons_zero, List.set_cons_succ]))
              (refine AnyS.takeS (i := 11) rfl (by kernel_rfl) (by kernel_rfl) (by kernel_rfl) (by rfl) (by kernel_rfl) (by kernel_rfl) (fun _ _ _ h => h) (by rfl) (by intro W hSw; have h1 := hSw.2.2; clear hSw; go_simp; with_reducible rfl) hU (fun hU => ?_); (try simp only [Act.put, List.setIfInBounds_toArray, List.set_cons_zero, List.set_cons_succ]))
              (refine AnyS.take (i := 12) rfl (by kernel_rfl) (by kernel_rfl) (by kernel_rfl) (by rfl) (fun _ _ _ h => h) (by rfl) (by intro w; go_simp; with_reducible rfl) hU (fun hU => ?_); (try simp only [Act.put, List.setIfInBounds_toArray, List.set_cons_zero, List.set_cons_succ]); refine AnyS.take (i := 13) rfl (by kernel_rfl) (by kernel_rfl) (by kernel_rfl) (by rfl) (fun _ _ _ h => h) (by rfl) (by intro w; go_simp; with_reducible rfl) hU (fun hU => ?_); (try simp only [Act.put, List.setIfInBounds_toArray, List.set_cons_zero, List.set_cons_succ]); refine AnyS.take (i := 14) rfl (by kernel_rfl) (by kernel_rfl) (by kernel_rfl) (by rfl) (fun _ _ _ h => h) (by rfl) (by intro w; go_simp; with_reducible rfl) hU (fun hU => ?_); (try simp only [Act.put, List.setIfInBounds_toArray, List.set_cons_zero, List.set_cons_succ]); refine AnyS.take (i := 15) rfl (by kernel_rfl) (by kernel_rfl) (by kernel_rfl) (by rfl) (fun _ _ _ h => h) (by rfl) (by intro w; go_simp; with_reducible rfl) hU (fun hU => ?_); (try simp only [Act.put, List.setIfInBounds_toArray, List.set_cons_zero, List.set_cons_succ]))
              obtain ⟨-, d1, f1, hM4⟩ := HS2.out _ hM2d
              (refine AnyS.branch (rs := [16]) (by kernel_rfl) (List.cons_ne_nil _ _) ?_; refine AllS.cons rfl ?_ AllS.nil; intro K hK)
              go_simp
              refine hK.out _ _ (.inr ⟨16, by simp, by rfl⟩) (fun hU => ?_)
              clear hK K d1 f1 hM2d
              (try simp only [Act.put, List.setIfInBounds_toArray, List.set_cons_zero, List.set_cons_succ])
              refine AnyS.done (by kernel_rfl) ?_ _
              clear hU HS2
              have HM4 := Lib.hid hM4
              clear hM4
              go_wp2_with fail
              go_roundw
              case rel => exact ⟨x + 1, by omega, by go_num, HM4.out⟩
              case measure => simp [intOf] <;> omega
            · obtain rfl : x = m.l := by omega
              have x3 : ¬ ((m.l : Int) < (m.l : Int)) := by omega
              rw [mqM_row] at hM
              have HM := Lib.hid hM
              clear hM
              go_wp2_with fail
              go_roundw
              case rel => exact ⟨q + 1, by omega, by go_num, HM.out⟩
              case measure => simp [intOf] <;> omega
        · obtain rfl : q = m.s := by omega
          have q3 : ¬ ((m.s : Int) < (m.s : Int)) := by omega
          rw [mqM_all] at hM
          have hwM := minM_wf hok hwf
          have hMd := hM.drew
          have HM := Lib.hid hM
          clear hM
          have HIM2 := Lib.hid (mach_infoT hwM)
          have HIN := Lib.hid (nvs16_info (numU m m.s))
          have HN1 := Lib.hid (nvs_one 16 (numU m m.s))
          have HML := Lib.hid (Mch.cells_length hwM)
          have HNL : Hid ((nvs 16 (numU m m.s)).length = 16) := nvs_len _ _
          have HM1 := Lib.hid (mach_ones (minM m))
          have HMI := Lib.hid (mach_info hwM)
          go_wp2_with fail
          clear cs
          refine region_S (fun W => MAt W b6 0 (minM m) ∧ W.rangeAt b5 0 (nvs 16 (numU m m.s))) [] 4 rfl HMX.out ⟨hMd.mach 2 rfl, (hMd.at 1 rfl).all⟩ (fun hU => ?_)
          obtain ⟨W, hW⟩ : ∃ W, W = wr.drew := ⟨_, rfl⟩
          rw [← hW] at hU hMd ⊢
          clear hW HM
          (refine AnyS.takeS (i := 0) rfl (by kernel_rfl) (by kernel_rfl) (by kernel_rfl) (by rfl) (by kernel_rfl) (by kernel_rfl) (fun _ _ _ h => h) (by rfl) (fun W hW => run_ld Try.underlying28 rfl HMI.out (.tmp 6) rfl rfl hW.1) hU (fun hU => ?_); (try simp only [Act.put, List.setIfInBounds_toArray, List.set_cons_zero, List.set_cons_succ]))
          (refine AnyS.takeS (i := 1) rfl (by kernel_rfl) (by kernel_rfl) (by kernel_rfl) (by rfl) (by kernel_rfl) (by kernel_rfl) (fun _ _ _ h => h) (by rfl) (fun W hW => run_ld Try.underlying78 rfl HIN.out (.tmp 5) rfl rfl hW.2) hU (fun hU => ?_); (try simp only [Act.put, List.setIfInBounds_toArray, List.set_cons_zero, List.set_cons_succ]))
          have ht := (hMd.at 4 rfl).there 0 (minM m).cells.length (by simp only; rw [zero_len, HML.out]; omega)
          have hM5 := hMd.setAll 4 rfl (vs := (minM m).cells) (by rw [zero_len, HML.out])
          simp only [List.set_cons_zero, List.set_cons_succ] at hM5
          (refine AnyS.branch (rs := [2]) (by kernel_rfl) (List.cons_ne_nil _ _) ?_; refine AllS.cons rfl ?_ AllS.nil; intro K hK)
          refine ite_of (by kernel_rfl) ?_
          refine wp_st 28 (.tmp 2) (.tmp 83) rfl (w.heap.size + 1) 0 (minM m).cells rfl rfl ht HIM2.out HM1.out ?_
          refine hK.out _ _ (.inl ⟨hM5.mach 2 rfl, (hM5.at 1 rfl).all⟩) (fun hU => ?_)
          clear hK K ht hMd
          (try simp only [Act.put, List.setIfInBounds_toArray, List.set_cons_zero, List.set_cons_succ])
          generalize W.setCells (w.heap.size + 1) 0 (minM m).cells = W1 at *
          have ht := (hM5.at 3 rfl).there 0 (nvs 16 (numU m m.s)).length (by rw [HNL.out]; simp [z16a])
          have hM6 := hM5.setAll 3 rfl (vs := nvs 16 (numU m m.s)) (by rw [HNL.out]; simp [z16a])
          simp only [List.set_cons_zero, List.set_cons_succ] at hM6
          (refine AnyS.branch (rs := [3]) (by kernel_rfl) (List.cons_ne_nil _ _) ?_; refine AllS.cons rfl ?_ AllS.nil; intro K hK)
          refine ite_of (by kernel_rfl) ?_
          refine wp_st 78 (.tmp 3) (.tmp 84) rfl (w.heap.size + 1 + 1) 0 (nvs 16 (numU m m.s)) rfl rfl ht HIN.out HN1.out ?_
          refine hK.out _ _ (.inl ⟨hM6.mach 2 rfl, (hM6.at 1 rfl).all⟩) (fun hU => ?_)
          clear hK K ht hM5
          (try simp only [Act.put, List.setIfInBounds_toArray, List.set_cons_zero, List.set_cons_succ])
          refine AnyS.done (by kernel_rfl) ?_ _
          clear hU
          generalize W1.setCells (w.heap.size + 1 + 1) 0 (nvs 16 (numU m m.s)) = W2 at *
          have HB1 := Lib.hid (hM6.at 4 rfl)
          have HB2 := Lib.hid (hM6.at 3 rfl)
          have HBL := Lib.hid hM6.below
          clear hM6
          go_wp2_with fail
          refine bodyPost_ret (v := .tuple #[.agg (minM m).cells.toArray, .agg (nvs 16 (numU m m.s)).toArray]) (results_cc Try.results70 _ _ (w.heap.size + 1) 28 (minM m).cells.toArray (0, 0) (.struct _) rfl HB1.out Try.underlying28 rfl (HIM2.out.trans (by rw [List.size_toArray]))
            (w.heap.size + 1 + 1) 78 (nvs 16 (numU m m.s)).toArray (0, 0) (.array 16 2) rfl HB2.out Try.underlying78 rfl (HIN.out.trans (by rw [List.size_toArray]))) rfl ⟨rfl, HBL.out⟩
end Go.Proofs.Ythgkkaifdlkciaa
