import Derived.Test.YteagecoiijhflaaYBall15
import Derived.Test.YteagecoiijhflaaYBall16
import Derived.Test.YteagecoiijhflaaYBall12
import Derived.DeepKeys
/- l02Rows: the rows of a word's sections, of the reference. -/
namespace Go.Proofs.Yteagecoiijhflaa
open Go.RowKit
set_option linter.unusedVariables false
set_option linter.unusedSimpArgs false

theorem info_u3 : (Try.prog.info? 22).map (fun i => (i.zero, i.size, i.bytes)) = some (some (.agg #[.int .u8 0, .int .u8 0, .int .u8 0]), 3, 3) := by kernel_rfl
theorem info_i3 : (Try.prog.info? 179).map (fun i => (i.zero, i.size, i.bytes)) = some (some (.agg #[.int .i64 0, .int .i64 0, .int .i64 0]), 3, 24) := by kernel_rfl
/-- the first d of 3 numbers are given, the rest are 0 -/
def padC (k : IntKind) (d : Nat) (f : Nat → Nat) : List Value := (List.range 3).map fun y => .int k (if y < d then (f y : Int) else 0)
theorem padC_len (k : IntKind) (d : Nat) (f : Nat → Nat) : (padC k d f).length = 3 := by simp [padC]
theorem padC_zero (k : IntKind) (f : Nat → Nat) : padC k 0 f = [.int k 0, .int k 0, .int k 0] := by simp [padC, List.range_succ]
theorem padC_get (k : IntKind) (d : Nat) (f : Nat → Nat) {y : Nat} (h : y < 3) : (padC k d f)[y]? = some (.int k (if y < d then (f y : Int) else 0)) := by simp [padC, List.getElem?_map, List.getElem?_range h]
theorem padC_set (k : IntKind) {d : Nat} (f : Nat → Nat) (h : d < 3) : (padC k d f).set d (.int k (f d : Int)) = padC k (d + 1) f := by
  apply List.ext_getElem?
  intro i
  by_cases hi : i < 3
  · rw [padC_get k _ f hi]
    by_cases e : i = d
    · subst e
      rw [List.getElem?_set_self (by rw [padC_len]; exact hi), if_pos (by omega)]
    · rw [List.getElem?_set_ne (Ne.symm e), padC_get k _ f hi]
      by_cases c : i < d
      · rw [if_pos c, if_pos (by omega)]
      · rw [if_neg c, if_neg (by omega)]
  · rw [List.getElem?_eq_none (by rw [List.length_set, padC_len]; omega), List.getElem?_eq_none (by rw [padC_len]; omega)]
theorem padC_congr (k : IntKind) {d : Nat} {f g : Nat → Nat} (h : ∀ y, y < d → f y = g y) : padC k d f = padC k d g := List.map_congr_left fun y _ => by
  by_cases c : y < d
  · rw [if_pos c, if_pos c, h y c]
  · rw [if_neg c, if_neg c]
theorem padC_one (k : IntKind) (d : Nat) (f : Nat → Nat) : ∀ v ∈ padC k d f, v.oneCell' = true := fun v hv => by
  simp only [padC, List.mem_map] at hv; obtain ⟨z, _, rfl⟩ := hv; rfl
/-- n rows of 3 numbers -/
def cellsR (k : IntKind) (d n : Nat) (f : Nat → Nat → Nat) : List Value := (List.range n).flatMap fun i => padC k d (f i)
theorem cellsR_succ (k : IntKind) (d n : Nat) (f : Nat → Nat → Nat) : cellsR k d (n + 1) f = cellsR k d n f ++ padC k d (f n) := by simp [cellsR, List.range_succ, List.flatMap_append]
theorem cellsR_congr (k : IntKind) {d n : Nat} {f g : Nat → Nat → Nat} (h : ∀ i y, i < n → y < d → f i y = g i y) : cellsR k d n f = cellsR k d n g := by
  induction n with
  | zero => rfl
  | succ n ih => rw [cellsR_succ, cellsR_succ, ih (fun i y hi hy => h i y (by omega) hy), padC_congr k (fun y hy => h n y (by omega) hy)]
theorem cellsR_len (k : IntKind) (d : Nat) (f : Nat → Nat → Nat) : ∀ n, (cellsR k d n f).length = n * 3
  | 0 => rfl
  | n + 1 => by rw [cellsR_succ, List.length_append, cellsR_len k d f n, padC_len]; omega
theorem cellsR_get (k : IntKind) (d : Nat) (f : Nat → Nat → Nat) : ∀ {n i y : Nat}, i < n → y < 3 → (cellsR k d n f)[i * 3 + y]? = (padC k d (f i))[y]?
  | 0, i, y, hi, _ => by omega
  | n + 1, i, y, hi, hy => by
    rw [cellsR_succ]
    by_cases e : i = n
    · subst e
      rw [List.getElem?_append_right (by rw [cellsR_len]; omega), cellsR_len]
      congr 1; omega
    · rw [List.getElem?_append_left (by rw [cellsR_len]; omega), cellsR_get k d f (n := n) (by omega) hy]
def fO (m : Mch) (Q : List Wd) (i x : Nat) : Nat := ledX m (Q[i]?.getD []) x
def fN (N : List (List Nat)) (i x : Nat) : Nat := (N[i]?.getD [])[x]?.getD 0
def grO (m : Mch) (v : Value) (n : Nat) (Q : List Wd) : Gr := ⟨v, 22, 3, n, cellsR .u8 m.l n (fO m Q)⟩
def grN (m : Mch) (v : Value) (n : Nat) (N : List (List Nat)) : Gr := ⟨v, 179, 3, n, cellsR .i64 m.l n (fN N)⟩
/-- the rows, or nothing -/
def RetRw (m : Mch) (R : Except Int (List Wd × List (List Nat))) (w : World) (e : Ending) (w' : World) : Prop := match R with
  | .error _ => e = .returned (.tuple #[.slice none 0 0, .slice none 0 0, .bool false]) ∧ Below w.heap.size w w'
  | .ok (Q, N) => ∃ vo vn, e = .returned (.tuple #[vo, vn, .bool true]) ∧ Mg w.heap.size w w' [] [grO m vo Q.length Q, grN m vn Q.length N]
theorem grO_more {m : Mch} {n : Nat} {Q Q' : List Wd} (h : ∀ i, i < n → Q'[i]? = Q[i]?) : cellsR .u8 m.l n (fO m Q') = cellsR .u8 m.l n (fO m Q) := cellsR_congr _ fun i y hi hy => by rw [fO, fO, h i hi]
theorem Mg.tail2 {B : Nat} {w0 w : World} {L : List (Nat × List Value × TypeId)} {x y : Gr} {G : List (Value × TypeId × List Value)} (h : Mg B w0 w L (x :: y :: G.map Gr.of)) : Mm B w0 w L G := (h.subG ((List.sublist_cons_self _ _).trans (List.sublist_cons_self _ _))).mm
theorem Mg.tail3 {B : Nat} {w0 w : World} {L : List (Nat × List Value × TypeId)} {x y z : Gr} {G : List (Value × TypeId × List Value)} (h : Mg B w0 w L (z :: x :: y :: G.map Gr.of)) : Mm B w0 w L G := (h.subG (List.sublist_cons_self _ _)).tail2
/-- a word is put into the queue -/
theorem q_put {a b : Gr} {q s : Value} {rq : List Value} {Q : List Wd} {T : Wd} {n : Nat} (hn : n = rq.length + 1) (hl : rq.length = Q.length) :
    ((⟨s, 2, 1, T.length, i64s T⟩ : Gr) :: a :: b :: (⟨q, 26, 1, n, rq ++ [s]⟩ : Gr) :: (rowG rq Q).map Gr.of).Perm (a :: b :: ((q, 26, rq ++ [s]) :: rowG (rq ++ [s]) (Q ++ [T])).map Gr.of) := by
  subst hn
  rw [rowG_snoc s T hl]
  simp only [List.map_cons, List.map_append, List.map_nil]
  have e1 : Gr.of (q, 26, rq ++ [s]) = ⟨q, 26, 1, rq.length + 1, rq ++ [s]⟩ := by simp [Gr.of]
  have e2 : Gr.of (s, 2, i64s T) = ⟨s, 2, 1, T.length, i64s T⟩ := by simp [Gr.of, i64s]
  rw [e1, e2]
  refine (List.Perm.swap _ _ _).trans (List.Perm.cons _ ((List.Perm.swap _ _ _).trans (List.Perm.cons _ ((List.Perm.swap _ _ _).trans (List.Perm.cons _ ?_)))))
  exact (List.perm_append_singleton _ _).symm

set_option maxRecDepth 100000 in
set_option maxHeartbeats 16000000 in
theorem l02Rows_any (m : Mch) (hwf : m.Wf) (hok : m.Ok) (a : Option Addr) (g : Wd) (c : Nat) (hg : GW m g) (hl : g.length ≤ 1000) (w : World) (hI : IntsAt w a g) :
    Calls Try.prog 147 #[.agg m.cells.toArray, .slice a g.length c] w (RetRw m (secR m anyB g) w) := by
  obtain ⟨i0, hi, hz0, hz1, hz2⟩ := info_parts Try.info26
  have h3 := hok.l_le
  have HI := Lib.hid hI
  have HGW := Lib.hid hg
  have hwi := invM_wf hok hwf
  have HIM := Lib.hid (mach_info hwf)
  have hmx : Try.prog.follows .mixedOrders = true := by kernel_rfl
  have HMX := Lib.hid hmx
  clear hI hg hmx
  go_enter Try.func147, Try.ntmps147
  go_wp2_with fail
  obtain ⟨WB, hWB⟩ : ∃ WB, WB = (w.alloc (.cells m.cells.toArray 29)).drew := ⟨_, rfl⟩
  have hBm : Blk WB w.heap.size m.cells 29 := by rw [hWB]; exact (Blk.new w m.cells.toArray 29).drew
  have hBb : Below w.heap.size w WB := by rw [hWB]; exact (boxedBelow w m.cells.toArray 29).drew
  have HBm := Lib.hid hBm
  have HBb := Lib.hid hBb
  have HWB := Lib.hid hWB
  clear hBm hBb hWB
  refine region_S (fun W => Blk W w.heap.size m.cells 29) [] 12 rfl HMX.out (by rw [← HWB.out]; exact HBm.out) (fun hU => ?_)
  rw [← HWB.out] at hU ⊢
  (refine AnyS.takeS (i := 0) rfl (by kernel_rfl) (by kernel_rfl) (by kernel_rfl) (by rfl) (by kernel_rfl) (by kernel_rfl) (fun _ _ _ h => h) (by rfl) (fun W hW => run_ld Try.underlying29 rfl HIM.out (.tmp 2) rfl rfl hW.all) hU (fun hU => ?_); (try simp only [Act.put, List.setIfInBounds_toArray, List.set_cons_zero, List.set_cons_succ]))
  (refine AnyS.takeS (i := 2) rfl (by kernel_rfl) (by kernel_rfl) (by kernel_rfl) (by rfl) (by kernel_rfl) (by kernel_rfl) (fun _ _ _ h => h) (by rfl) (fun W hW => run_ld Try.underlying29 rfl HIM.out (.tmp 2) rfl rfl hW.all) hU (fun hU => ?_); (try simp only [Act.put, List.setIfInBounds_toArray, List.set_cons_zero, List.set_cons_succ]))
  (refine AnyS.takeS (i := 4) rfl (by kernel_rfl) (by kernel_rfl) (by kernel_rfl) (by rfl) (by kernel_rfl) (by kernel_rfl) (fun _ _ _ h => h) (by rfl) (fun W hW => run_ld Try.underlying29 rfl HIM.out (.tmp 2) rfl rfl hW.all) hU (fun hU => ?_); (try simp only [Act.put, List.setIfInBounds_toArray, List.set_cons_zero, List.set_cons_succ]))
  refine AnyS.inv (fun l ac W => ∃ (g1 g3 g5 f6 f7 f8 : Bool) (x6 x7 x8 v18 v20 v22 : Value), l = #[true, g1, true, g3, true, g5, f6, f7, f8, false, false, false] ∧
    ac = { tmps := #[.agg m.cells.toArray, .slice a g.length c, .pointer (some ⟨w.heap.size, 0, none⟩), undef, .slice none 0 0, .slice none 0 0, .bool false, x6, x7, x8, undef, undef, undef, undef, undef, undef, undef, undef, undef, undef, undef, .agg m.cells.toArray, v18, .agg m.cells.toArray, v20, .agg m.cells.toArray, v22, undef, undef, undef, undef, undef, undef, undef, undef, undef, undef, undef, undef, undef, undef, undef, undef, undef, undef, undef, undef, undef, undef, undef, undef, undef, undef, undef, undef, undef, undef, undef, undef, undef, undef, undef, undef, undef, undef, undef, undef, undef, undef, undef, undef, undef, undef, undef, undef, undef, undef, undef, undef, undef, undef, undef, undef, undef, undef, undef, undef, undef, undef, undef, undef, undef, undef, undef], defers := [] } ∧
    (g3 = true → g1 = true) ∧ (g5 = true → g3 = true) ∧ (g1 = true → v18 = .agg (invM m).cells.toArray) ∧ (g3 = true → v20 = .agg (clsV m).toArray) ∧ (g5 = true → v22 = .agg (trvV m).toArray) ∧
    P3 w W f6 x6 Try.zeroCells29.toList 29 ∧ P3 w W f7 x7 zI16.toList 64 ∧ P3 w W f8 x8 zB16.toList 65 ∧ Below w.heap.size w W ∧ Blk W w.heap.size m.cells 29) (fun l a W h => by
      obtain ⟨_, _, _, _, _, _, _, _, _, _, _, _, _, _, _, _, _, _, _, _, _, _, _, h⟩ := h
      exact h) ?_ _ _ _ _ ⟨false, false, false, false, false, false, undef, undef, undef, undef, undef, undef, rfl, rfl, (fun h => h), (fun h => h), (fun h => by cases h), (fun h => by cases h), (fun h => by cases h), P3.off _ _ _ _ _, P3.off _ _ _ _ _, P3.off _ _ _ _ _, HBb.out, HBm.out⟩ (Nat.le_of_eq (by kernel_rfl))
  clear hU
  rintro l ac W ⟨g1, g3, g5, f6, f7, f8, x6, x7, x8, v18, v20, v22, rfl, rfl, k1, k2, k3, k4, k5, k6, k7, k8, k9, k10⟩
  have hW0 := k10.lt
  by_cases hall : (g5 && f6 && f7 && f8) = true
  case neg =>
    right
    refine ⟨?_, ?_⟩
    · clear k3 k4 k5 k6 k7 k8 k9 k10
      cases g1 <;> cases g3 <;> cases g5 <;> cases f6 <;> cases f7 <;> cases f8 <;> first | (exact absurd (k1 rfl) (by decide)) | (exact absurd (k2 rfl) (by decide)) | (exact absurd rfl hall) | exact ready_ne (by kernel_rfl)
    · intro i hi
      have hmem : pr3 g1 g3 g5 f6 f7 f8 i = true := by
        clear k3 k4 k5 k6 k7 k8 k9 k10
        cases g1 <;> cases g3 <;> cases g5 <;> cases f6 <;> cases f7 <;> cases f8 <;> first | (exact absurd (k1 rfl) (by decide)) | (exact absurd (k2 rfl) (by decide)) | (exact absurd rfl hall) | exact all_mem (p := pr3 _ _ _ _ _ _) hi (by kernel_rfl)
      clear hi hall
      simp only [pr3, Bool.or_eq_true, Bool.and_eq_true, beq_iff_eq, Bool.not_eq_true'] at hmem
      have k10' := k10
      have hba : ∀ ob, Below W.heap.size W (W.alloc ob) := fun ob => (Below.refl _ _).alloc (Nat.le_refl _) _
      have HBA := Lib.hid hba
      have HK6 := Lib.hid k6
      have HK7 := Lib.hid k7
      have HK8 := Lib.hid k8
      have HK9 := Lib.hid k9
      have HK10 := Lib.hid k10
      have H1 := Lib.hid k1
      have H2 := Lib.hid k2
      have H3 := Lib.hid k3
      have H4 := Lib.hid k4
      have H5 := Lib.hid k5
      clear k1 k2 k3 k4 k5 k6 k7 k8 k9 k10 k10' hba
      rcases hmem with ((((⟨rfl, rfl⟩ | ⟨⟨rfl, rfl⟩, rfl⟩) | ⟨⟨rfl, rfl⟩, rfl⟩) | ⟨rfl, rfl⟩) | ⟨rfl, rfl⟩) | ⟨rfl, rfl⟩
      · refine wpOp_step rfl (fun K hK => ?_)
        have HK := Lib.hid hK
        clear hK
        go_simp
        refine (l01Inverse_any m hwf hok _).mono ?_
        rintro e w4 ⟨rfl, hb4⟩
        (try simp only [Act.put, List.setIfInBounds_toArray, List.set_cons_zero, List.set_cons_succ])
        exact HK.out _ _ ⟨true, g3, g5, f6, f7, f8, x6, x7, x8, .agg (invM m).cells.toArray, v20, v22, rfl, rfl, fun _ => rfl, H2.out, fun _ => rfl, H4.out, H5.out, HK6.out.keep hb4, HK7.out.keep hb4, HK8.out.keep hb4, HK9.out.trans (hb4.mono (Nat.le_of_lt hW0)), HK10.out.keep hb4⟩
      · refine wpOp_step rfl (fun K hK => ?_)
        have HK := Lib.hid hK
        clear hK
        go_simp
        refine (l01Classes_any m hwf hok _).mono ?_
        rintro e w4 ⟨rfl, hb4⟩
        (try simp only [Act.put, List.setIfInBounds_toArray, List.set_cons_zero, List.set_cons_succ])
        exact HK.out _ _ ⟨true, true, g5, f6, f7, f8, x6, x7, x8, v18, .agg (clsV m).toArray, v22, rfl, rfl, fun _ => rfl, fun _ => rfl, H3.out, fun _ => rfl, H5.out, HK6.out.keep hb4, HK7.out.keep hb4, HK8.out.keep hb4, HK9.out.trans (hb4.mono (Nat.le_of_lt hW0)), HK10.out.keep hb4⟩
      · obtain rfl := H1.out rfl
        refine wpOp_step rfl (fun K hK => ?_)
        have HK := Lib.hid hK
        clear hK
        go_simp
        refine (l01Trivial_any m hwf hok _).mono ?_
        rintro e w4 ⟨rfl, hb4⟩
        (try simp only [Act.put, List.setIfInBounds_toArray, List.set_cons_zero, List.set_cons_succ])
        exact HK.out _ _ ⟨true, true, true, f6, f7, f8, x6, x7, x8, v18, v20, .agg (trvV m).toArray, rfl, rfl, fun _ => rfl, fun _ => rfl, H3.out, H4.out, fun _ => rfl, HK6.out.keep hb4, HK7.out.keep hb4, HK8.out.keep hb4, HK9.out.trans (hb4.mono (Nat.le_of_lt hW0)), HK10.out.keep hb4⟩
      · refine wpOp_step rfl (fun K hK => ?_)
        have HK := Lib.hid hK
        clear hK
        go_simp
        (try simp only [Act.put, List.setIfInBounds_toArray, List.set_cons_zero, List.set_cons_succ])
        exact HK.out _ _ ⟨g1, g3, g5, true, f7, f8, _, x7, x8, v18, v20, v22, rfl, rfl, H1.out, H2.out, H3.out, H4.out, H5.out, P3.new hW0 _ _ _, HK7.out.keep (HBA.out _), HK8.out.keep (HBA.out _), HK9.out.trans ((HBA.out _).mono (Nat.le_of_lt hW0)), HK10.out.keep (HBA.out _)⟩
      · refine wpOp_step rfl (fun K hK => ?_)
        have HK := Lib.hid hK
        clear hK
        go_simp
        (try simp only [Act.put, List.setIfInBounds_toArray, List.set_cons_zero, List.set_cons_succ])
        exact HK.out _ _ ⟨g1, g3, g5, f6, true, f8, x6, _, x8, v18, v20, v22, rfl, rfl, H1.out, H2.out, H3.out, H4.out, H5.out, HK6.out.keep (HBA.out _), P3.new hW0 _ _ _, HK8.out.keep (HBA.out _), HK9.out.trans ((HBA.out _).mono (Nat.le_of_lt hW0)), HK10.out.keep (HBA.out _)⟩
      · refine wpOp_step rfl (fun K hK => ?_)
        have HK := Lib.hid hK
        clear hK
        go_simp
        (try simp only [Act.put, List.setIfInBounds_toArray, List.set_cons_zero, List.set_cons_succ])
        exact HK.out _ _ ⟨g1, g3, g5, f6, f7, true, x6, x7, _, v18, v20, v22, rfl, rfl, H1.out, H2.out, H3.out, H4.out, H5.out, HK6.out.keep (HBA.out _), HK7.out.keep (HBA.out _), P3.new hW0 _ _ _, HK9.out.trans ((HBA.out _).mono (Nat.le_of_lt hW0)), HK10.out.keep (HBA.out _)⟩
  left
  intro n hn
  simp only [Bool.and_eq_true] at hall
  obtain ⟨⟨⟨rfl, rfl⟩, rfl⟩, rfl⟩ := hall
  obtain rfl := k2 rfl
  obtain rfl := k1 rfl
  obtain rfl := k3 rfl
  obtain rfl := k4 rfl
  obtain rfl := k5 rfl
  obtain ⟨b6, b7, b8, rfl, rfl, rfl, hM⟩ := P3.mm k6 k7 k8 k9 k10 (by decide) (by decide) (by decide)
  clear k1 k2 k3 k4 k5 k6 k7 k8 k9 k10
  obtain ⟨n', rfl⟩ : ∃ n', n = n' + 3 := ⟨n - 3, by have h3 : leftN 12 #[true, true, true, true, true, true, true, true, true, false, false, false] = 3 := (by kernel_rfl); have hn' : leftN 12 #[true, true, true, true, true, true, true, true, true, false, false, false] ≤ n := hn; omega⟩
  clear hn
  have hU : Upto (fun W => Blk W w.heap.size m.cells 29) [] #[true, true, true, true, true, true, true, true, true, false, false, false] W := .inl (hM.at 3 rfl)
  have ht := (hM.at 0 rfl).there 0 (invM m).cells.length (by simp only; rw [zero_len, Mch.cells_length hwi]; omega)
  have hM1 := hM.setAll 0 rfl (vs := (invM m).cells) (by rw [zero_len, Mch.cells_length hwi])
  simp only [List.set_cons_zero] at hM1
  have hBl := hM1.at 3 rfl
  simp only at hBl
  have HBl := Lib.hid hBl
  clear hBl
  (refine AnyS.branch (rs := [9]) (by kernel_rfl) (List.cons_ne_nil _ _) ?_; refine AllS.cons rfl ?_ AllS.nil; intro K hK)
  refine ite_of (by kernel_rfl) ?_
  refine wp_st 29 (.tmp 7) (.tmp 22) rfl b6 0 (invM m).cells rfl rfl ht (mach_infoT hwi) (mach_ones _) ?_
  refine hK.out _ _ (.inl HBl.out) (fun hU => ?_)
  clear hK K ht hM HBl
  (try simp only [Act.put, List.setIfInBounds_toArray, List.set_cons_zero, List.set_cons_succ])
  generalize W.setCells b6 0 (invM m).cells = W1 at *
  have ht := (hM1.at 1 rfl).there 0 (clsV m).length (by simp only [cls_len]; exact Nat.le_refl _)
  have hM2 := hM1.setAll 1 rfl (vs := clsV m) (by rw [cls_len]; rfl)
  simp only [List.set_cons_zero, List.set_cons_succ] at hM2
  have hBl := hM2.at 3 rfl
  simp only at hBl
  have HBl := Lib.hid hBl
  clear hBl
  (refine AnyS.branch (rs := [10]) (by kernel_rfl) (List.cons_ne_nil _ _) ?_; refine AllS.cons rfl ?_ AllS.nil; intro K hK)
  refine ite_of (by kernel_rfl) ?_
  refine wp_st 64 (.tmp 8) (.tmp 24) rfl b7 0 (clsV m) rfl rfl ht (cls_info m) (cls_ones _) ?_
  refine hK.out _ _ (.inl HBl.out) (fun hU => ?_)
  clear hK K ht hM1 HBl
  (try simp only [Act.put, List.setIfInBounds_toArray, List.set_cons_zero, List.set_cons_succ])
  generalize W1.setCells b7 0 (clsV m) = W2 at *
  have ht := (hM2.at 2 rfl).there 0 (trvV m).length (by simp only [trv_len]; exact Nat.le_refl _)
  have hM3 := hM2.setAll 2 rfl (vs := trvV m) (by rw [trv_len]; rfl)
  simp only [List.set_cons_zero, List.set_cons_succ] at hM3
  have hBl := hM3.at 3 rfl
  simp only at hBl
  have HBl := Lib.hid hBl
  clear hBl
  (refine AnyS.branch (rs := [11]) (by kernel_rfl) (List.cons_ne_nil _ _) ?_; refine AllS.cons rfl ?_ AllS.nil; intro K hK)
  refine ite_of (by kernel_rfl) ?_
  refine wp_st 65 (.tmp 9) (.tmp 26) rfl b8 0 (trvV m) rfl rfl ht (trv_info m) (trv_ones _) ?_
  refine hK.out _ _ (.inl HBl.out) (fun hU => ?_)
  clear hK K ht hM2 HBl
  (try simp only [Act.put, List.setIfInBounds_toArray, List.set_cons_zero, List.set_cons_succ])
  refine AnyS.done (by kernel_rfl) ?_ _
  clear hU
  generalize W2.setCells b8 0 (trvV m) = W3 at *
  have HNRM : Hid (∀ a (g : Wd) c W, GW m g → g.length ≤ 1000 → IntsAt W a g → Calls Try.prog 87 #[.slice a g.length c, .agg (clsV m).toArray, .agg (trvV m).toArray] W fun e w' => ∃ v, e = .returned v ∧ Below W.heap.size W w' ∧ OwnI w' W.heap.size v (nrm m g)) := fun a g c W h1 h2 h3 => l02Normal_any m hok a g c h1 h2 W h3
  have HLED : Hid (∀ a (g : Wd) c (x : Nat) W, GW m g → g.length ≤ 1000 → x < m.l → IntsAt W a g → Calls Try.prog 86 #[.agg m.cells.toArray, .agg (invM m).cells.toArray, .slice a g.length c, .int .u8 (x : Int)] W fun e w' => ∃ v, e = .returned (.tuple #[.int .u8 (ledX m g x : Int), v]) ∧ Below W.heap.size W w' ∧ OwnI w' W.heap.size v (ledS m g x)) := fun a g c x W h1 h2 h3 h4 => l02Led_any m hwf hok a g c h1 h2 x h3 W h4
  have HCI := Lib.hid (cls_info m)
  have HTI := Lib.hid (trv_info m)
  have HII := Lib.hid (mach_info hwi)
  have HW3 : Hid (Below w.heap.size w W3) := hM3.below
  clear hwi
  generalize clsV m = CV at *
  generalize trvV m = TV at *
  generalize invM m = IV at *
  have hcv := (hM3.at 1 rfl).all
  have htv := (hM3.at 2 rfl).all
  simp only at hcv htv
  go_wp2_with (first | ((with_reducible refine ld_row ?_ 64 (.tmp 8) ?_ b7 0 ?_ CV (.array 16 2) hcv Try.underlying64 ?_ HCI.out ?_); exact rfl; exact rfl; exact rfl; exact rfl) | ((with_reducible refine ld_row ?_ 65 (.tmp 9) ?_ b8 0 ?_ TV (.array 16 4) htv Try.underlying65 ?_ HTI.out ?_); exact rfl; exact rfl; exact rfl; exact rfl))
  refine (HNRM.out a g c _ HGW.out hl (HI.out.keep HW3.out)).mono ?_
  rintro e w4 ⟨v, rfl, hb4, hO4⟩
  have hM4 := hM3.callOwn hb4 hO4 (by simp [i64s])
  obtain ⟨av, cv, rfl, -⟩ := hO4.form
  have hM5 := (hM4.newOwn #[.slice av (nrm m g).length cv] 26 1 rfl (by omega)).mg
  have hM6 := hM5.newOwn #[] 22 3 0 rfl (by omega)
  have hM7 := hM6.newOwn #[] 179 3 0 rfl (by omega)
  simp only [World.size_alloc] at hM7
  have HM7 := Lib.hid hM7
  obtain ⟨LB, hLB⟩ : ∃ LB : List (Nat × List Value × TypeId), LB = [(b6, IV.cells, 29), (b7, CV, 64), (b8, TV, 65), (w.heap.size, m.cells, 29)] := ⟨_, rfl⟩
  rw [← hLB] at HM7
  have HS10 : Hid (∀ W L G, Mg w.heap.size w W (L ++ LB) G → MAt W w.heap.size 0 m ∧ MAt W b6 0 IV) := fun W L G h => by
    rw [hLB] at h
    exact ⟨(h.sub (List.sublist_append_right _ _)).mach 3 rfl, (h.sub (List.sublist_append_right _ _)).mach 0 rfl⟩
  have HS17 : Hid (∀ W L G, Mg w.heap.size w W (L ++ LB) G → W.rangeAt b7 0 CV ∧ W.rangeAt b8 0 TV) := fun W L G h => by
    rw [hLB] at h
    exact ⟨((h.sub (List.sublist_append_right _ _)).at 1 rfl).all, ((h.sub (List.sublist_append_right _ _)).at 2 rfl).all⟩
  have HM8 : Hid (Mg w.heap.size w (((w4.alloc (.cells #[.slice av (nrm m g).length cv] 26)).alloc (.cells #[] 22)).alloc (.cells #[] 179)) LB (grO m (.slice (some ⟨w4.heap.size + 1, 0, none⟩) 0 0) 0 [nrm m g] :: grN m (.slice (some ⟨w4.heap.size + 1 + 1, 0, none⟩) 0 0) 0 [] ::
      ((.slice (some ⟨w4.heap.size, 0, none⟩) 1 1, 26, [.slice av (nrm m g).length cv]) :: rowG [.slice av (nrm m g).length cv] [nrm m g]).map Gr.of)) := HM7.out.permG (List.Perm.swap _ _ _)
  clear hcv htv hM3 hM4 hM5 hM6 hM7 HM7 hO4 hLB
  go_wp2_with fail
  go_loopw [10, 11, 12, 13] (fun q10 v11 v12 i wr => ∃ (j : Nat) (rq : List Value) (Q : List Wd) (N : List (List Nat)), i = .int .i64 j ∧ j ≤ 200 ∧ Mg w.heap.size w wr LB (grO m v11 j Q :: grN m v12 j N :: ((q10, 26, rq) :: rowG rq Q).map Gr.of) ∧ Hid (bSt m anyB g j = .ok (Q, N) ∧ rq.length = Q.length ∧ N.length = j)) (fun _ _ _ i _ => 200 - (intOf i).toNat)
  case atStart => exact ⟨0, [.slice av (nrm m g).length cv], [nrm m g], [], rfl, by omega, HM8.out, rfl, rfl, rfl⟩
  case round =>
    clear HM8
    obtain ⟨j, rq, Q, N, rfl, hj, hQ, HB⟩ := hrel
    have hB := HB.out
    obtain ⟨hok1, -, -⟩ := bSt_ok hok hwf anyB HGW.out j hB.1
    have hmany := hok1.many
    have hrl := hB.2.1
    have ho := hQ.tail2.own _ (List.mem_cons_self ..)
    simp only at ho
    obtain ⟨g9, c9, rfl, -, -, -⟩ := own_form ho (by rw [hrl]; have := hok1.pos; omega)
    rw [hrl] at ho hQ ⊢
    clear ho
    by_cases hlt : j < Q.length
    · have hNl : N.length < 200 := by have := hB.2.2; omega
      have hw' := hok1.toQOk.at hlt
      obtain ⟨hh, hhe⟩ : ∃ hh, hh = Q[j]?.getD [] := ⟨_, rfl⟩
      rw [← hhe] at hw'
      have HH := Lib.hid hhe
      have HBN : Hid (bSt m anyB g (j + 1) = (match qRow m hh m.l Q with | none => .error 3 | some (Q', r) => .ok (Q', N ++ [r]))) := by
        show _ = _; rw [bSt, hB.1]; simp only; rw [if_pos hlt, ← hhe]; rfl
      have i1 : (0 : Int) ≤ (j : Int) := by omega
      have i2 : (j : Int) < (Q.length : Int) := by omega
      have HNL := Lib.hid hNl
      have hA2 := (hQ.alloc #[.int .u8 0, .int .u8 0, .int .u8 0] 22).alloc #[.int .i64 0, .int .i64 0, .int .i64 0] 179
      rw [World.size_alloc] at hA2
      have HA2 := Lib.hid hA2
      clear hA2 hQ hhe hB hok1
      go_wp2_with fail
      obtain ⟨LQ, hLQ⟩ : ∃ LQ : List (Value × TypeId × List Value), LQ = (.slice (some ⟨g9, 0, none⟩) Q.length c9, 26, rq) :: rowG rq Q := ⟨_, rfl⟩
      have HA3 : Hid (Mg w.heap.size w ((wr.alloc (.cells #[.int .u8 0, .int .u8 0, .int .u8 0] 22)).alloc (.cells #[.int .i64 0, .int .i64 0, .int .i64 0] 179)) ((wr.heap.size + 1, padC .i64 0 (fun y => ([] : List Nat)[y]?.getD 0), 179) :: (wr.heap.size, padC .u8 0 (ledX m hh), 22) :: LB)
        (grO m u11 j Q :: grN m u12 j N :: ((.slice (some ⟨g9, 0, none⟩) Q.length c9, 26, rq) :: rowG rq Q).map Gr.of)) := by
        show Mg _ _ _ _ _
        rw [padC_zero, padC_zero]
        exact HA2.out
      clear HA2 hLQ LQ
      generalize (wr.alloc (.cells #[.int .u8 0, .int .u8 0, .int .u8 0] 22)).alloc (.cells #[.int .i64 0, .int .i64 0, .int .i64 0] 179) = W14 at *
      generalize wr.heap.size + 1 = b15 at *
      generalize wr.heap.size = b14 at *
      go_loopw [10, 16] (fun q10 i wr => ∃ (x : Nat) (rq' : List Value) (Q' : List Wd) (r : List Nat), i = .int .i64 x ∧ x ≤ m.l ∧ Mg w.heap.size w wr ((b15, padC .i64 x (fun y => r[y]?.getD 0), 179) :: (b14, padC .u8 x (ledX m hh), 22) :: LB) (grO m u11 j Q :: grN m u12 j N :: ((q10, 26, rq') :: rowG rq' Q').map Gr.of) ∧ Hid (qRow m hh x Q = some (Q', r) ∧ rq'.length = Q'.length)) (fun _ i _ => m.l - (intOf i).toNat)
      case atStart => exact ⟨0, rq, Q, [], rfl, Nat.zero_le _, HA3.out, rfl, hrl⟩
      case round =>
        clear HA3
        obtain ⟨x, rq', Q', r, rfl, hx, hM, HR⟩ := hrel
        have hB := HB.out
        obtain ⟨hok1, -, -⟩ := bSt_ok hok hwf anyB HGW.out j hB.1
        obtain ⟨hq1, hq2, hq3, hq4, hq5⟩ := QOk.row hok hwf hw'.1 hw'.2 hx hok1.toQOk HR.out.1
        have hrl' := HR.out.2
        have hmany' := hq1.many
        have cl := (HS10.out _ [_, _] _ hM).1.l
        rw [hok.L_eq] at cl
        have ho9 := hM.tail2.own _ (List.mem_cons_self ..)
        simp only at ho9
        obtain ⟨g8, c8, rfl, -, -, -⟩ := own_form ho9 (by omega)
        rw [hrl'] at hM ⊢
        clear ho9
        by_cases hxl : x < m.l
        · have i3 : (0 : Int) ≤ (x : Int) := by omega
          have i4 : (x : Int) < (m.l : Int) := by omega
          have i5 : (x : Int) < 3 := by omega
          have i6 : (j : Int) < (Q'.length : Int) := by omega
          have e8 := IntWalk.u8_in (x : Int) ⟨by omega, by omega⟩
          have hjl : j < Q'.length := by omega
          have HRD : Hid (∀ W L, Mg w.heap.size w W L (grO m u11 j Q :: grN m u12 j N :: ((.slice (some ⟨g8, 0, none⟩) Q'.length c8, 26, rq') :: rowG rq' Q').map Gr.of) → ∃ a' d', W.cell? ⟨g8, j, none⟩ = some (.slice a' hh.length d') ∧ IntsAt W a' hh) := fun W L h => by
            obtain ⟨g', c', a', d', e1, e2, e3⟩ := h.tail2.readQ hrl' (List.mem_cons_self ..) (fun y hy => List.mem_cons_of_mem _ hy) hjl
            injection e1 with e1 _ _
            injection e1 with e1
            injection e1 with e1
            subst e1
            rw [hq5 j hlt, ← HH.out] at e2 e3
            exact ⟨a', d', e2, e3⟩
          have hsg := ledS_gw hok hwf hw'.1 hxl
          have hsl := ledS_len m hh x
          have hnn := nrm_len m (ledS m hh x)
          have HNG := Lib.hid (nrm_gw hsg)
          have HSG := Lib.hid hsg
          have HQ1 := Lib.hid hq1
          have HRS : Hid (qRow m hh (x + 1) Q = match qPut Q' (nrm m (ledS m hh x)) with | none => none | some (Q'', a) => some (Q'', r ++ [a])) := by
            show _ = _; rw [qRow, HR.out.1]; rfl
          have hs1000 : (ledS m hh x).length ≤ 1000 := by omega
          have hn1000 : (nrm m (ledS m hh x)).length ≤ 1000 := by omega
          have hyl : ledX m hh x < m.l := ledX_lt hok hwf hw'.1 hxl
          have hrx : r.length = x := hq2
          have HTL : Hid (∀ W G (aN : Nat), Mg w.heap.size w W ((b15, padC .i64 x (fun y => r[y]?.getD 0), 179) :: (b14, padC .u8 x (ledX m hh), 22) :: LB) G →
              W.cell? ⟨b14, x, none⟩ = some (.int .u8 0) ∧ W.frozen? ⟨b14, x, none⟩ = false ∧ (W.setCell ⟨b14, x, none⟩ (.int .u8 (ledX m hh x : Int))).cell? ⟨b15, x, none⟩ = some (.int .i64 0) ∧ (W.setCell ⟨b14, x, none⟩ (.int .u8 (ledX m hh x : Int))).frozen? ⟨b15, x, none⟩ = false ∧
              Mg w.heap.size w ((W.setCell ⟨b14, x, none⟩ (.int .u8 (ledX m hh x : Int))).setCell ⟨b15, x, none⟩ (.int .i64 (aN : Int))) ((b15, padC .i64 (x + 1) (fun y => (r ++ [aN])[y]?.getD 0), 179) :: (b14, padC .u8 (x + 1) (ledX m hh), 22) :: LB) G) := fun W G aN h => by
            have h2 := h.setCell 1 rfl x (.int .u8 (ledX m hh x : Int))
            rw [padC_set .u8 (ledX m hh) (by omega : x < 3)] at h2
            simp only [List.set_cons_zero, List.set_cons_succ] at h2
            have h3 := h2.setCell 0 rfl x (.int .i64 (aN : Int))
            have e1 : padC .i64 x (fun y => r[y]?.getD 0) = padC .i64 x (fun y => (r ++ [aN])[y]?.getD 0) := padC_congr _ fun y hy => by rw [List.getElem?_append_left (by omega)]
            have e2 : (aN : Int) = (((fun y => (r ++ [aN])[y]?.getD 0) x : Nat) : Int) := by
              have : (r ++ [aN])[x]?.getD 0 = aN := by rw [List.getElem?_append_right (by omega)]; simp [hrx]
              simp only [this]
            simp only [List.set_cons_zero] at h3
            refine ⟨?_, (h.at 1 rfl).free x, ?_, (h2.at 0 rfl).free x, ?_⟩
            · have := (h.at 1 rfl).cell' (padC_get .u8 x (ledX m hh) (by omega : x < 3))
              rwa [if_neg (by omega)] at this
            · have := (h2.at 0 rfl).cell' (padC_get .i64 x (fun y => r[y]?.getD 0) (by omega : x < 3))
              rwa [if_neg (by omega)] at this
            · rw [e1] at h3
              have e3 := padC_set .i64 (fun y => (r ++ [aN])[y]?.getD 0) (by omega : x < 3)
              rw [← e2] at e3
              rw [e3] at h3
              exact h3
          clear hok1 hq1 hq3 hq5 hsg hsl hnn hB hrx hq2
          obtain ⟨Y, hY⟩ : ∃ Y, Y = ledX m hh x := ⟨_, rfl⟩
          have HYY : Hid (ledX m hh x = Y) := hY.symm
          rw [← hY] at HTL hyl
          clear hY
          have y0 : (0 : Int) ≤ (Y : Int) := by omega
          have HM := Lib.hid hM
          clear hM
          go_wp2_with fail
          clear cl
          have hMd := HM.out.drewN 1
          obtain ⟨a', d', hc1, hI1⟩ := HRD.out _ _ hMd
          have HI1 := Lib.hid hI1
          have HSM : Hid (∀ W, Below (wr.drewN 1).heap.size (wr.drewN 1) W → MAt W w.heap.size 0 m ∧ MAt W b6 0 IV ∧ W.cell? ⟨g8, j, none⟩ = some (.slice a' hh.length d')) := fun W hW => by
            have h1 := HS10.out _ [_, _] _ (hMd.call hW)
            exact ⟨h1.1, h1.2, (hW.cell (World.block_lt_of_cell? _ _ hc1)).trans hc1⟩
          refine region_A (fun W => MAt W w.heap.size 0 m ∧ MAt W b6 0 IV ∧ W.cell? ⟨g8, j, none⟩ = some (.slice a' hh.length d')) [] 14 (fun W => W = wr.drewN 1) rfl HMX.out rfl (fun W h => by rw [h]; exact HSM.out _ (Below.refl _ _)) (fun W hW hU => ?_)
          rw [← hW] at hMd HSM HI1
          clear hW hc1 hI1 HM
          (refine AnyS.takeS (i := 0) rfl (by kernel_rfl) (by kernel_rfl) (by kernel_rfl) (by rfl) (by kernel_rfl) (by kernel_rfl) (fun _ _ _ h => h) (by rfl) (fun W hW => run_ld Try.underlying29 rfl HIM.out (.tmp 2) rfl rfl hW.1) hU (fun hU => ?_); (try simp only [Act.put, List.setIfInBounds_toArray, List.set_cons_zero, List.set_cons_succ]))
          (refine AnyS.takeS (i := 1) rfl (by kernel_rfl) (by kernel_rfl) (by kernel_rfl) (by rfl) (by kernel_rfl) (by kernel_rfl) (fun _ _ _ h => h) (by rfl) (fun W hW => run_ld Try.underlying29 rfl HII.out (.tmp 7) rfl rfl hW.2.1) hU (fun hU => ?_); (try simp only [Act.put, List.setIfInBounds_toArray, List.set_cons_zero, List.set_cons_succ]))
          (refine AnyS.take (i := 2) rfl (by kernel_rfl) (by kernel_rfl) (by kernel_rfl) (by rfl) (fun _ _ _ h => h) (by rfl) (by intro w; go_simp; with_reducible rfl) hU (fun hU => ?_); (try simp only [Act.put, List.setIfInBounds_toArray, List.set_cons_zero, List.set_cons_succ]); refine AnyS.take (i := 3) rfl (by kernel_rfl) (by kernel_rfl) (by kernel_rfl) (by rfl) (fun _ _ _ h => h) (by rfl) (by intro w; go_simp; with_reducible rfl) hU (fun hU => ?_); (try simp only [Act.put, List.setIfInBounds_toArray, List.set_cons_zero, List.set_cons_succ]); refine AnyS.take (i := 4) rfl (by kernel_rfl) (by kernel_rfl) (by kernel_rfl) (by rfl) (fun _ _ _ h => h) (by rfl) (by intro w; go_simp; with_reducible rfl) hU (fun hU => ?_); (try simp only [Act.put, List.setIfInBounds_toArray, List.set_cons_zero, List.set_cons_succ]))
          (refine AnyS.takeS (i := 5) rfl (by kernel_rfl) (by kernel_rfl) (by kernel_rfl) (by rfl) (by kernel_rfl) (by kernel_rfl) (fun _ _ _ h => h) (by rfl) (by intro W hSw; have h1 := hSw.2.2; clear hSw; go_simp; with_reducible rfl) hU (fun hU => ?_); (try simp only [Act.put, List.setIfInBounds_toArray, List.set_cons_zero, List.set_cons_succ]))
          (refine AnyS.take (i := 6) rfl (by kernel_rfl) (by kernel_rfl) (by kernel_rfl) (by rfl) (fun _ _ _ h => h) (by rfl) (by intro w; go_simp; with_reducible rfl) hU (fun hU => ?_); (try simp only [Act.put, List.setIfInBounds_toArray, List.set_cons_zero, List.set_cons_succ]); refine AnyS.take (i := 7) rfl (by kernel_rfl) (by kernel_rfl) (by kernel_rfl) (by rfl) (fun _ _ _ h => h) (by rfl) (by intro w; go_simp; with_reducible rfl) hU (fun hU => ?_); (try simp only [Act.put, List.setIfInBounds_toArray, List.set_cons_zero, List.set_cons_succ]))
          (refine AnyS.branch (rs := [8]) (by kernel_rfl) (List.cons_ne_nil _ _) ?_; refine AllS.cons rfl ?_ AllS.nil; intro K hK)
          go_simp
          refine (HLED.out a' hh d' x _ hw'.1 (by omega) hxl HI1.out).mono ?_
          rintro e w5 ⟨v, rfl, hb5, hO5⟩
          have hM5 := hMd.callOwn hb5 hO5
          refine hK.out _ _ (.inl (HSM.out _ hb5)) (fun hU => ?_)
          clear hK K hMd HSM
          (try simp only [Act.put, List.setIfInBounds_toArray, List.set_cons_zero, List.set_cons_succ])
          (refine AnyS.take (i := 9) rfl (by kernel_rfl) (by kernel_rfl) (by kernel_rfl) (by rfl) (fun _ _ _ h => h) (by rfl) (by intro w; go_simp; with_reducible rfl) hU (fun hU => ?_); (try simp only [Act.put, List.setIfInBounds_toArray, List.set_cons_zero, List.set_cons_succ]); refine AnyS.take (i := 10) rfl (by kernel_rfl) (by kernel_rfl) (by kernel_rfl) (by rfl) (fun _ _ _ h => h) (by rfl) (by intro w; go_simp; with_reducible rfl) hU (fun hU => ?_); (try simp only [Act.put, List.setIfInBounds_toArray, List.set_cons_zero, List.set_cons_succ]); refine AnyS.take (i := 11) rfl (by kernel_rfl) (by kernel_rfl) (by kernel_rfl) (by rfl) (fun _ _ _ h => h) (by rfl) (by intro w; go_simp; with_reducible rfl) hU (fun hU => ?_); (try simp only [Act.put, List.setIfInBounds_toArray, List.set_cons_zero, List.set_cons_succ]); refine AnyS.take (i := 12) rfl (by kernel_rfl) (by kernel_rfl) (by kernel_rfl) (by rfl) (fun _ _ _ h => h) (by rfl) (by intro w; go_simp; with_reducible rfl) hU (fun hU => ?_); (try simp only [Act.put, List.setIfInBounds_toArray, List.set_cons_zero, List.set_cons_succ]); refine AnyS.take (i := 13) rfl (by kernel_rfl) (by kernel_rfl) (by kernel_rfl) (by rfl) (fun _ _ _ h => h) (by rfl) (by intro w; go_simp; with_reducible rfl) hU (fun hU => ?_); (try simp only [Act.put, List.setIfInBounds_toArray, List.set_cons_zero, List.set_cons_succ]))
          refine AnyS.done (by kernel_rfl) ?_ _
          clear hU
          obtain ⟨a5, c5, rfl, hI5⟩ := hO5.form
          rw [HYY.out]
          have hr17 := (HS17.out _ [_, _] _ hM5)
          have hcv := hr17.1
          have htv := hr17.2
          have HM5 := Lib.hid hM5
          have HNC := Lib.hid (HNRM.out a5 (ledS m hh x) c5 w5 HSG.out hs1000 hI5)
          clear hM5 hI5 hO5 hb5 hr17
          go_wp2_with (first | ((with_reducible refine ld_row ?_ 64 (.tmp 8) ?_ b7 0 ?_ CV (.array 16 2) hcv Try.underlying64 ?_ HCI.out ?_); exact rfl; exact rfl; exact rfl; exact rfl) | ((with_reducible refine ld_row ?_ 65 (.tmp 9) ?_ b8 0 ?_ TV (.array 16 4) htv Try.underlying65 ?_ HTI.out ?_); exact rfl; exact rfl; exact rfl; exact rfl))
          clear hcv htv
          refine HNC.out.mono ?_
          rintro e w6 ⟨v6, rfl, hb6, hO6⟩
          generalize nrm m (ledS m hh x) = T at *
          have hM6 := (HM5.out.subG (List.sublist_cons_self _ _)).callOwn hb6 hO6
          obtain ⟨a6, c6, rfl, hI6⟩ := hO6.form
          have hSQ : SlII w6 (.slice (some ⟨g8, 0, none⟩) Q'.length c8) Q' := hM6.tail3.slQ hrl' (List.mem_cons_self ..) (fun y hy => List.mem_cons_of_mem _ hy)
          have HFD := Lib.hid (l02Find_any (.slice (some ⟨g8, 0, none⟩) Q'.length c8) Q' a6 T c6 (by omega) (fun i => by
                by_cases hi : i < Q'.length
                · have := (HQ1.out.at hi).2; omega
                · rw [List.getElem?_eq_none (by omega)]; simp) w6 hSQ hI6)
          have HM6 := Lib.hid hM6
          clear hSQ hI6 hO6 hb6 hM6 HM5 HNC
          go_wp2_with fail
          refine HFD.out.mono ?_
          rintro e w7 ⟨rfl, n7, rfl⟩
          have hM7 := HM6.out.drewN n7
          have HRQ' := Lib.hid hrl'
          clear HM6 HFD
          by_cases hmem : T ∈ Q'
          · have HRX : Hid (qRow m hh (x + 1) Q = some (Q', r ++ [Q'.idxOf T])) := by show _ = _; rw [HRS.out, qPut, if_pos hmem]
            have hpl : plc Q' T = (Q'.idxOf T : Int) := by rw [plc, if_pos hmem]
            rw [hpl]
            generalize Q'.idxOf T = I at *
            have hI0 : (0 : Int) ≤ (I : Int) := by omega
            have hI1 : ¬ (I : Int) < 0 := by omega
            obtain ⟨d1, f1, d2, f2, hM9⟩ := HTL.out _ _ I (hM7.subG (List.sublist_cons_self _ _))
            have HM9 := Lib.hid hM9
            clear hmem hpl hM7 HRS hrl' hM9
            go_wp2_with fail
            go_roundw
            case rel => exact ⟨x + 1, rq', Q', r ++ [I], by go_num, by omega, HM9.out, HRX.out, HRQ'.out⟩
            case measure => simp [intOf] <;> omega
          · have hpl : plc Q' T = -1 := by rw [plc, if_neg hmem]
            rw [hpl]
            by_cases hfull : Q'.length = 200
            · have HRX : Hid (qRow m hh (x + 1) Q = none) := by show _ = _; rw [HRS.out, qPut, if_neg hmem, if_pos hfull]
              have HRR : Hid (secR m anyB g = .error 3) := by
                have h1 := qRow_stop HRX.out (m.l - (x + 1))
                rw [show x + 1 + (m.l - (x + 1)) = m.l by omega] at h1
                have h2 := HBN.out
                rw [h1] at h2
                exact secR_err h2 (by have := HNL.out; omega)
              have hf2 : ((Q'.length : Int) == 200) = true := by simp; omega
              have hbl := hM7.below
              clear hmem hpl hM7 HRS hrl'
              go_wp2_with fail
              go_ret3
              rw [HRR.out]
              exact ⟨rfl, hbl⟩
            · have HRX : Hid (qRow m hh (x + 1) Q = some (Q' ++ [T], r ++ [Q'.length])) := by show _ = _; rw [HRS.out, qPut, if_neg hmem, if_neg hfull]
              have hf2 : ((Q'.length : Int) == 200) = false := by simp; omega
              have hrq : rq'.length ≤ 1000000 := by omega
              have hM7' : Mg w.heap.size w (w6.drewN n7) ((b15, padC .i64 x (fun y => r[y]?.getD 0), 179) :: (b14, padC .u8 x (ledX m hh), 22) :: LB) (⟨.slice a6 T.length c6, 2, 1, T.length, i64s T⟩ :: grO m u11 j Q :: grN m u12 j N :: ⟨.slice (some ⟨g8, 0, none⟩) Q'.length c8, 26, 1, rq'.length, rq'⟩ :: (rowG rq' Q').map Gr.of) := hM7
              clear hmem hpl hM7 HRS
              go_wp2_with (at_builtin; refine Mg.append rfl (.tmp 74) (.tmp 76) 35 rfl hM7' 3 rfl Try.underlying35 hi hz0 hz1 hz2 rfl (by decide) (us := #[_]) rfl rfl _ rfl rfl (by simp [Value.oneCell']) hrq (by omega) ?_)
              intro g' cap' w8 hM8
              (try simp only [List.set_cons_zero, List.set_cons_succ] at hM8)
              have hM8' := hM8.permG (q_put (by rw [HRQ'.out]) HRQ'.out)
              obtain ⟨d1, f1, d2, f2, hM9⟩ := HTL.out _ _ Q'.length hM8'
              have HM9 := Lib.hid hM9
              have HLQ : Hid ((rq' ++ [Value.slice a6 T.length c6]).length = (Q' ++ [T]).length) := by show _ = _; rw [List.length_append, List.length_append, HRQ'.out]; rfl
              clear hM7' hM8 hM8' hM9 hrl'
              go_wp2_with fail
              go_roundw
              case rel => exact ⟨x + 1, _, Q' ++ [T], r ++ [Q'.length], by go_num, by omega, HM9.out, HRX.out, HLQ.out⟩
              case measure => simp [intOf] <;> omega
        · have hx' : x = m.l := by omega
          subst hx'
          have HBX : Hid (bSt m anyB g (j + 1) = .ok (Q', N ++ [r])) := by show _ = _; rw [HBN.out, HR.out.1]
          have HLN := Lib.hid HB.out.2.2
          have HLQ := Lib.hid hrl'
          obtain ⟨u0, hu0, hu1, hu2, hu3⟩ := info_parts info_u3
          obtain ⟨v0, hv0, hv1, hv2, hv3⟩ := info_parts info_i3
          have c14 := (hM.at 1 rfl).all
          have c15 := (hM.at 0 rfl).all
          simp only at c14 c15
          have HP14 : Hid ((Try.prog.info? 22).map (·.size) = some (padC .u8 m.l (ledX m hh)).length) := by show _ = _; rw [padC_len]; kernel_rfl
          have HP15 : Hid ((Try.prog.info? 179).map (·.size) = some (padC .i64 m.l (fun y => r[y]?.getD 0)).length) := by show _ = _; rw [padC_len]; kernel_rfl
          have hj1 : j ≤ 1000000 := by omega
          have j9 : ¬ ((m.l : Int) < (m.l : Int)) := by omega
          have HGO : Hid (cellsR .u8 m.l (j + 1) (fO m Q') = cellsR .u8 m.l j (fO m Q) ++ padC .u8 m.l (ledX m hh)) := by
            show _ = _
            rw [cellsR_succ, grO_more (fun i hi => hq5 i (by omega))]
            congr 1
            refine padC_congr _ fun y hy => ?_
            rw [fO, hq5 j hlt, ← HH.out]
          have HGN : Hid (cellsR .i64 m.l (j + 1) (fN (N ++ [r])) = cellsR .i64 m.l j (fN N) ++ padC .i64 m.l (fun y => r[y]?.getD 0)) := by
            show _ = _
            rw [cellsR_succ]
            congr 1
            · refine cellsR_congr _ fun i y hi hy => ?_
              rw [fN, fN, List.getElem?_append_left (by rw [hB.2.2]; omega)]
            · refine padC_congr _ fun y hy => ?_
              rw [fN, List.getElem?_append_right (by rw [hB.2.2]; omega), hB.2.2]
              simp
          have HM := Lib.hid hM
          have H14 := Lib.hid (padC_one .u8 m.l (ledX m hh))
          have H15 := Lib.hid (padC_one .i64 m.l (fun y => r[y]?.getD 0))
          have L14 := Lib.hid (padC_len .u8 m.l (ledX m hh))
          have L15 := Lib.hid (padC_len .i64 m.l (fun y => r[y]?.getD 0))
          generalize padC .u8 m.l (ledX m hh) = P14 at *
          generalize padC .i64 m.l (fun y => r[y]?.getD 0) = P15 at *
          have hM := HM.out
          have HGOD : Hid (grO m u11 j Q = ⟨u11, 22, 3, j, cellsR .u8 m.l j (fO m Q)⟩) := rfl
          have HGND : Hid (grN m u12 j N = ⟨u12, 179, 3, j, cellsR .i64 m.l j (fN N)⟩) := rfl
          rw [HGOD.out, HGND.out] at hM
          clear hq1 hq2 hq3 hq4 hq5 hok1 hB hrl' HM
          have HF14 : Hid ((List.foldl (fun cs (x : Value × Nat) => cs.setIfInBounds x.2 x.1) #[Value.int .u8 0, .int .u8 0, .int .u8 0] P14.zipIdx).toList = P14) := fold_zip (by rw [L14.out]; rfl)
          have HF15 : Hid ((List.foldl (fun cs (x : Value × Nat) => cs.setIfInBounds x.2 x.1) #[Value.int .i64 0, .int .i64 0, .int .i64 0] P15.zipIdx).toList = P15) := fold_zip (by rw [L15.out]; rfl)
          have l14 : P14.length = 3 := L14.out
          go_wp2_with (first | (at_builtin; refine Mg.appendA rfl (.tmp 84) (.tmp 86) 174 rfl hM 0 rfl Try.underlying174 hu0 hu1 hu2 hu3 rfl (by decide) P14 HF14.out L14.out rfl _ rfl rfl H14.out hj1 (by omega) ?_) | ((with_reducible refine ld_row ?_ 22 (.tmp 14) ?_ b14 0 ?_ P14 (.array 3 5) c14 Try.underlying22 ?_ HP14.out ?_); exact rfl; exact rfl; exact rfl; exact rfl))
          intro g7 c7 w7 hM7
          (try simp only [List.set_cons_zero, List.set_cons_succ] at hM7)
          have c15 := (hM7.at 0 rfl).all
          simp only at c15
          have HM7 := Lib.hid hM7
          clear hM hM7 c14 l14
          have hM7 := HM7.out
          have l15 : P15.length = 3 := L15.out
          go_wp2_with (first | (at_builtin; refine Mg.appendA rfl (.tmp 88) (.tmp 90) 175 rfl hM7 1 rfl Try.underlying175 hv0 hv1 hv2 hv3 rfl (by decide) P15 HF15.out L15.out rfl _ rfl rfl H15.out hj1 (by omega) ?_) | ((with_reducible refine ld_row ?_ 179 (.tmp 15) ?_ b15 0 ?_ P15 (.array 3 2) c15 Try.underlying179 ?_ HP15.out ?_); exact rfl; exact rfl; exact rfl; exact rfl))
          intro g8' c8' w8 hM8
          (try simp only [List.set_cons_zero, List.set_cons_succ] at hM8)
          have hM9 := hM8.sub (L' := LB) ((List.sublist_cons_self _ _).trans (List.sublist_cons_self _ _))
          rw [← HGO.out, ← HGN.out] at hM9
          have HM9 : Hid (Mg w.heap.size w w8 LB (grO m (.slice (some ⟨g7, 0, none⟩) (j + 1) c7) (j + 1) Q' :: grN m (.slice (some ⟨g8', 0, none⟩) (j + 1) c8') (j + 1) (N ++ [r]) :: ((.slice (some ⟨g8, 0, none⟩) Q'.length c8, 26, rq') :: rowG rq' Q').map Gr.of)) := hM9
          clear hM8 hM9 hM7 HM7 c15 l15
          go_wp2_with fail
          go_roundw
          case rel => exact ⟨j + 1, rq', Q', N ++ [r], by go_num, by have := HNL.out; have := HLN.out; omega, HM9.out, HBX.out, HLQ.out, by simp [HLN.out]⟩
          case measure => simp [intOf] <;> omega
    · have hje : j = Q.length := by have := hok1.rows; have := hB.2.2; omega
      have HR : Hid (secR m anyB g = .ok (Q, N)) := secR_end hB.1 (by omega) hj
      subst hje
      have HM9 := Lib.hid (hQ.subG (G' := [grO m u11 Q.length Q, grN m u12 Q.length N]) (List.Sublist.cons_cons _ (List.Sublist.cons_cons _ (List.nil_sublist _))))
      have HM10 := Lib.hid (HM9.out.sub (List.nil_sublist _))
      clear hB hok1 hQ HM9
      go_wp2_with fail
      go_ret3
      rw [HR.out]
      exact ⟨_, _, rfl, HM10.out⟩
end Go.Proofs.Yteagecoiijhflaa

/- '==' of machines, and of rows of three letters. -/
namespace Go.Proofs.Yteagecoiijhflaa
open Go.RowKit
set_option linter.unusedVariables false
set_option linter.unusedSimpArgs false

def litC : Value → Lit
  | .int k n => .int k n
  | _ => .bool false
theorem mapM_all {α β : Type} {f : α → Option β} {g : α → β} : ∀ {l : List α}, (∀ i ∈ l, f i = some (g i)) → l.mapM f = some (l.map g)
  | [], _ => rfl
  | i :: l, h => by
    rw [List.mapM_cons, h i (List.mem_cons_self ..), mapM_all fun j hj => h j (List.mem_cons_of_mem _ hj)]; rfl
theorem pieces {α β : Type} (g : α → β) (k : Nat) (cs : List α) : ∀ n, n * k ≤ cs.length → ((List.range n).map fun i => ((cs.drop (i * k)).take k).map g).flatten = (cs.take (n * k)).map g
  | 0, _ => by simp
  | n + 1, h => by
    have h1 : n * k + k ≤ cs.length := by rw [Nat.succ_mul] at h; exact h
    rw [List.range_succ, List.map_append, List.flatten_append, pieces g k cs n (by omega)]
    simp only [List.map_cons, List.map_nil, List.flatten_cons, List.flatten_nil, List.append_nil]
    rw [← List.map_append]
    congr 1
    rw [Nat.succ_mul, List.take_add]
theorem kl_arr {P : Program} {t e : TypeId} {n k : Nat} (hu : P.underlying t = some (.array n e)) (hce : P.cellsOf e = k) (hct : P.cellsOf t = n * k) {cs : List Value} (hl : cs.length = n * k) {d : Nat}
    (h : ∀ i, i < n → P.keyLits d e ((cs.drop (i * k)).take k) = some (((cs.drop (i * k)).take k).map litC)) : P.keyLits (d + 1) t cs = some (cs.map litC) := by
  unfold Program.keyLits
  rw [hu]
  simp only [hce, hct]
  rw [if_pos hl, mapM_all (g := fun i => ((cs.drop (i * k)).take k).map litC) (fun i hi => h i (by simpa using hi))]
  simp only [Option.map_some]
  rw [pieces litC k cs n (by omega), List.take_of_length_le (by omega)]
theorem kl_int {P : Program} {e : TypeId} {q : IntKind} (he : P.underlying e = some (.int q)) {v : Value} (hv : ∃ x, v = .int q x ∧ (Lit.int q x).wf = true) (d : Nat) : P.keyLits (d + 1) e [v] = some ([v].map litC) := by
  obtain ⟨x, rfl, hx⟩ := hv
  unfold Program.keyLits
  rw [he]
  simp [hx, litC]
theorem take_one {α : Type} {l : List α} {i : Nat} (h : i < l.length) : (l.drop (i * 1)).take 1 = [l[i]] := by
  rw [Nat.mul_one, List.drop_eq_getElem_cons h]; rfl
/-- an array of numbers -/
theorem kl_ints {P : Program} {t e : TypeId} {n : Nat} {q : IntKind} (hu : P.underlying t = some (.array n e)) (he : P.underlying e = some (.int q)) (hce : P.cellsOf e = 1) (hct : P.cellsOf t = n * 1) {cs : List Value} (hl : cs.length = n) (hx : ∀ v ∈ cs, ∃ x, v = .int q x ∧ (Lit.int q x).wf = true) (d : Nat) :
    P.keyLits (d + 2) t cs = some (cs.map litC) := by
  refine kl_arr hu hce hct (by omega) (fun i hi => ?_)
  rw [take_one (by omega)]
  exact kl_int he (hx _ (List.getElem_mem _)) d
theorem u8_wf {x : Int} (h : 0 ≤ x ∧ x ≤ 255) : (Lit.int .u8 x).wf = true := by
  obtain ⟨h1, h2⟩ := h
  simp [Lit.wf, IntKind.min, IntKind.max, IntKind.signed, IntKind.bits]; omega
theorem i64_wf {x : Int} (h : -9223372036854775808 ≤ x ∧ x ≤ 9223372036854775807) : (Lit.int .i64 x).wf = true := by
  obtain ⟨h1, h2⟩ := h
  simp [Lit.wf, IntKind.min, IntKind.max, IntKind.signed, IntKind.bits]; omega

/-! rows of three letters -/
theorem kl_u3 {cs : List Value} (hl : cs.length = 3) (hx : ∀ v ∈ cs, ∃ x, v = .int .u8 x ∧ (Lit.int .u8 x).wf = true) (d : Nat) : Try.prog.keyLits (d + 2) 22 cs = some (cs.map litC) :=
  kl_ints Try.underlying22 Try.underlying5 (by kernel_rfl) (by kernel_rfl) hl hx d
theorem padC_wf {d : Nat} {f : Nat → Nat} (hf : ∀ y, y < d → f y ≤ 255) : ∀ v ∈ padC .u8 d f, ∃ x, v = .int .u8 x ∧ (Lit.int .u8 x).wf = true := fun v hv => by
  simp only [padC, List.mem_map] at hv
  obtain ⟨y, -, rfl⟩ := hv
  refine ⟨_, rfl, u8_wf ?_⟩
  split
  · rename_i h; have := hf y h; omega
  · omega
theorem eql_pad {d : Nat} (hd : d ≤ 3) {f g : Nat → Nat} (hf : ∀ y, y < d → f y ≤ 255) (hg : ∀ y, y < d → g y ≤ 255) (w : World) :
    (Op.equalIn 10000 22 (.agg (padC .u8 d f).toArray) (.agg (padC .u8 d g).toArray)).run Try.prog w = .ok ((List.range d).all fun y => f y == g y) w := by
  have hE : EqAt Try.prog (9996 + 4) 22 := run_equalIn_deep 9996 4 22 (by kernel_rfl)
  have hfm : ∀ f, (Value.agg (padC .u8 d f).toArray).formed Try.prog 22 = true := fun f => by
    have hs : (padC .u8 d f).toArray.size = Try.prog.cellsOf 22 := by rw [List.size_toArray, padC_len]; kernel_rfl
    simp only [Value.formed, Try.underlying22, hs, beq_self_eq_true]
  obtain ⟨r, hr, hiff⟩ := hE w 2 2 _ _ _ _ (hfm f) (hfm g) (kl_u3 (padC_len _ _ _) (padC_wf hf) 0) (kl_u3 (padC_len _ _ _) (padC_wf hg) 0)
  have e : r = (List.range d).all fun y => f y == g y := by
    rw [Bool.eq_iff_iff, hiff, List.all_eq_true]
    constructor
    · intro h y hy
      have hy3 : y < d := by simpa using hy
      have h1 := congrArg (fun l => l[y]?) h
      simp only [List.getElem?_map, padC_get .u8 d f (show y < 3 by omega), padC_get .u8 d g (show y < 3 by omega), if_pos hy3, Option.map_some, litC, Option.some.injEq, Lit.int.injEq, true_and] at h1
      have : f y = g y := by omega
      simp [this]
    · intro h
      rw [padC_congr .u8 (g := g) fun y hy => by simpa using h y (by simpa using hy)]
  rw [← e]; exact hr

/-! machines -/
def eqM (M M' : Mch) : Bool := decide (M.L = M'.L) && decide (M.S = M'.S) && decide (M.N = M'.N) && decide (M.O = M'.O)
theorem eqM_iff (M M' : Mch) : eqM M M' = true ↔ M = M' := by
  cases M; cases M'
  simp [eqM, and_assoc]
theorem u8s_wf {N : List Int} (h : ∀ i : Nat, 0 ≤ N[i]?.getD 0 ∧ N[i]?.getD 0 ≤ 255) : ∀ v ∈ N.map (Value.int .u8), ∃ x, v = .int .u8 x ∧ (Lit.int .u8 x).wf = true := fun v hv => by
  obtain ⟨x, hx, rfl⟩ := List.mem_map.1 hv
  obtain ⟨i, hi, rfl⟩ := List.getElem_of_mem hx
  have := h i
  rw [List.getElem?_eq_getElem hi, Option.getD_some] at this
  exact ⟨_, rfl, u8_wf this⟩
theorem kl_grid {N : List Int} (hl : N.length = 48) (h : ∀ i : Nat, 0 ≤ N[i]?.getD 0 ∧ N[i]?.getD 0 ≤ 255) : Try.prog.keyLits 3 23 (N.map (Value.int .u8)) = some ((N.map (Value.int .u8)).map litC) := by
  refine kl_arr (n := 16) (k := 3) Try.underlying23 (by kernel_rfl) (by kernel_rfl) (by simp [hl]) (fun i hi => ?_)
  refine kl_u3 (by simp [hl]; omega) (fun v hv => ?_) 0
  exact u8s_wf h v (List.mem_of_mem_drop (List.mem_of_mem_take hv))
theorem kl_mach {M : Mch} (hM : M.Wf) : Try.prog.keyLits 4 29 M.cells = some (M.cells.map litC) := by
  have hlen := Mch.cells_length hM
  have d2 : (M.cells.drop 2).take 48 = M.N.map (Value.int .u8) := by
    simp only [Mch.cells, List.drop_succ_cons, List.drop_zero, List.map_append]
    rw [List.take_left' (by simp [hM.nl])]
  have d3 : (M.cells.drop 50).take 48 = M.O.map (Value.int .u8) := by
    have e : M.cells.drop 50 = M.O.map (Value.int .u8) := by
      simp only [Mch.cells, List.map_append]
      rw [show (50 : Nat) = 48 + 2 by rfl, List.drop_succ_cons, List.drop_succ_cons, List.drop_left' (by simp [hM.nl])]
    rw [e, List.take_of_length_le (by simp [hM.ol])]
  have k0 : Try.prog.keyLits 3 2 [.int .i64 M.L] = some [.int .i64 M.L] := kl_int Try.underlying2 ⟨_, rfl, i64_wf hM.lb⟩ 2
  have k1 : Try.prog.keyLits 3 2 [.int .i64 M.S] = some [.int .i64 M.S] := kl_int Try.underlying2 ⟨_, rfl, i64_wf hM.sb⟩ 2
  have k2 := kl_grid hM.nl hM.nb
  have k3 := kl_grid hM.ol hM.ob
  have z : M.cells.length = Try.prog.cellsOf 29 := by rw [hlen]; kernel_rfl
  have zi : Try.prog.cellsOf 2 = 1 := by kernel_rfl
  have zg : Try.prog.cellsOf 23 = 48 := by kernel_rfl
  unfold Program.keyLits
  rw [Try.underlying29]
  simp only
  rw [if_pos ⟨z, by kernel_rfl⟩]
  simp only [List.mapM_cons, List.mapM_nil, zi, zg, List.drop_zero]
  rw [show List.take 1 M.cells = [.int .i64 M.L] from rfl, show List.take 1 (List.drop 1 M.cells) = [.int .i64 M.S] from rfl, d2, d3, k0, k1, k2, k3]
  simp [Mch.cells, litC]
theorem litM_inj {M M' : Mch} (hM : M.Wf) (hM' : M'.Wf) (h : M.cells.map litC = M'.cells.map litC) : M = M' := by
  simp only [Mch.cells, List.map_cons, List.map_map, List.cons.injEq, litC, Lit.int.injEq, true_and] at h
  obtain ⟨h1, h2, h3⟩ := h
  have hinj : ∀ l l' : List Int, l.map (litC ∘ Value.int .u8) = l'.map (litC ∘ Value.int .u8) → l = l' := fun l l' e => by
    refine List.map_inj_right (fun x y hxy => ?_) |>.1 e
    simpa [litC] using hxy
  have h4 := hinj _ _ h3
  obtain ⟨h5, h6⟩ := List.append_inj h4 (by rw [hM.nl, hM'.nl])
  obtain ⟨L, S, N, O⟩ := M
  obtain ⟨L', S', N', O'⟩ := M'
  simp only at h1 h2 h5 h6
  subst h1 h2 h5 h6
  rfl
theorem eql_mach {M M' : Mch} (hM : M.Wf) (hM' : M'.Wf) (w : World) : (Op.equalIn 10000 29 (.agg M.cells.toArray) (.agg M'.cells.toArray)).run Try.prog w = .ok (eqM M M') w := by
  have hE : EqAt Try.prog (9996 + 4) 29 := run_equalIn_deep 9996 4 29 (by kernel_rfl)
  have hfm : ∀ {M : Mch}, M.Wf → (Value.agg M.cells.toArray).formed Try.prog 29 = true := fun {M} h => by
    have hs : M.cells.toArray.size = Try.prog.cellsOf 29 := by rw [List.size_toArray, Mch.cells_length h]; kernel_rfl
    simp only [Value.formed, Try.underlying29, hs, beq_self_eq_true]
  obtain ⟨r, hr, hiff⟩ := hE w 4 4 _ _ _ _ (hfm hM) (hfm hM') (kl_mach hM) (kl_mach hM')
  have e : r = eqM M M' := by
    rw [Bool.eq_iff_iff, hiff, eqM_iff]
    exact ⟨litM_inj hM hM', fun h => by rw [h]⟩
  rw [← e]; exact hr
/-- '==' at a step of a region -/
theorem ex_eql {P : Program} {o : Oper} {T tt : TypeId} {x y : Operand} (ho : o.op = .binOp .eql T x y tt) {a b : Array Value} {r : Bool} (hm : P.eqGuardType P.depth T = false) (h : ∀ w, (Op.equalIn 10000 T (.agg a) (.agg b)).run P w = .ok r w) {ev : Operand → Value} (hx : ev x = .agg a) (hy : ev y = .agg b) (w : World) :
    (execOp ev o).run P w = .ok (.value (.bool r)) w := by
  unfold execOp
  simp only [ho, hx, hy, Sem.run_bind, run_eqGuard_agg w .eql T x y a b hm, Result.andThen_ok, run_eql_struct, h w, Sem.run_pure]
end Go.Proofs.Yteagecoiijhflaa
