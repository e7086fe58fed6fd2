import Derived.Test.YteagecoiijhflaaYBall11
import Derived.Test.YteagecoiijhflaaYBall01
import Derived.Deep.Matrix
import Derived.Deep.Strs
import Derived.Test.YteagecoiijhflaaChecked
import Derived.JoinedOf
import Derived.OpenShut
/- l02Trivial. -/
namespace Go.Proofs.Yteagecoiijhflaa
open Go.RowKit
set_option linter.unusedVariables false
set_option linter.unusedSimpArgs false

theorem ite_of {c : Prop} [Decidable c] {A B : Prop} (h : c) (ha : A) : if c then A else B := by rw [if_pos h]; exact ha
theorem wp_st {P : Program} {o : Oper} {a : Act} {w : World} {K : Act → World → Prop} {Q : Exit → Act → World → Prop} (T : TypeId) (x y : Operand) (ho : o.op = .store T x y)
    (b off : Nat) (cs : List Value) (hx : a.eval x = .pointer (some ⟨b, off, none⟩)) (hy : a.eval y = .agg cs.toArray) (ht : w.there b off cs.length) (hi : (P.info? T).map (·.size) = some cs.length) (h1 : ∀ v ∈ cs, v.oneCell' = true)
    (h : K (a.put o.dst undef) (w.setCells b off cs)) : o.wp P a w K Q :=
  wp_store_mid T x y ho b off cs.toArray hx hy (by rw [List.size_toArray]; exact ht) (by rw [List.size_toArray]; exact hi) (all_oneCell_toArray h1) h
theorem all_mem {l : List Nat} {p : Nat → Bool} {i : Nat} (hi : i ∈ l) (h : l.all p = true) : p i = true := List.all_eq_true.1 h i hi
def pr3 (g1 g3 g5 f6 f7 f8 : Bool) (i : Nat) : Bool := (i == 1 && !g1) || (i == 3 && g1 && !g3) || (i == 5 && g3 && !g5) || (i == 6 && !f6) || (i == 7 && !f7) || (i == 8 && !f8)
theorem ready_ne {l : List Nat} (h : l.isEmpty = false) : l ≠ [] := fun e => by subst e; cases h
/-- if f, x is a pointer to a new block of the cells Z -/
def P3 (w W : World) (f : Bool) (x : Value) (Z : List Value) (T : Nat) : Prop := f = true → ∃ b, x = .pointer (some ⟨b, 0, none⟩) ∧ w.heap.size < b ∧ Blk W b Z T
theorem P3.keep {w W W' : World} {f : Bool} {x : Value} {Z : List Value} {T : Nat} (h : P3 w W f x Z T) (hb : Below W.heap.size W W') : P3 w W' f x Z T := fun hf => by
  obtain ⟨b, h1, h2, h3⟩ := h hf
  exact ⟨b, h1, h2, h3.keep hb⟩
theorem P3.off (w W : World) (x : Value) (Z : List Value) (T : Nat) : P3 w W false x Z T := fun h => by cases h
theorem P3.new {w W : World} (h : w.heap.size < W.heap.size) (f : Bool) (Z : Array Value) (T : Nat) : P3 w (W.alloc (.cells Z T)) f (.pointer (some ⟨W.heap.size, 0, none⟩)) Z.toList T := fun _ => ⟨_, rfl, h, Blk.new W Z T⟩
def zI16 : Array Value := #[.int .i64 0, .int .i64 0, .int .i64 0, .int .i64 0, .int .i64 0, .int .i64 0, .int .i64 0, .int .i64 0, .int .i64 0, .int .i64 0, .int .i64 0, .int .i64 0, .int .i64 0, .int .i64 0, .int .i64 0, .int .i64 0]
def zB16 : Array Value := #[.bool false, .bool false, .bool false, .bool false, .bool false, .bool false, .bool false, .bool false, .bool false, .bool false, .bool false, .bool false, .bool false, .bool false, .bool false, .bool false]
theorem P3.mm {w W : World} {x6 x7 x8 : Value} {Z6 Z7 Z8 : List Value} {T T7 T8 : Nat} {m : Mch} (h6 : P3 w W true x6 Z6 T) (h7 : P3 w W true x7 Z7 T7) (h8 : P3 w W true x8 Z8 T8) (hb : Below w.heap.size w W) (hm : Blk W w.heap.size m.cells T) (h1 : T ≠ T7) (h2 : T ≠ T8) (h3 : T7 ≠ T8) :
    ∃ b6 b7 b8, x6 = .pointer (some ⟨b6, 0, none⟩) ∧ x7 = .pointer (some ⟨b7, 0, none⟩) ∧ x8 = .pointer (some ⟨b8, 0, none⟩) ∧ Mm w.heap.size w W [(b6, Z6, T), (b7, Z7, T7), (b8, Z8, T8), (w.heap.size, m.cells, T)] [] := by
  obtain ⟨b6, e6, l6, B6⟩ := h6 rfl
  obtain ⟨b7, e7, l7, B7⟩ := h7 rfl
  obtain ⟨b8, e8, l8, B8⟩ := h8 rfl
  have diff : ∀ {b b' : Nat} {Z Z' : List Value} {T T' : Nat}, Blk W b Z T → Blk W b' Z' T' → T ≠ T' → b ≠ b' := fun h h' hne e => by
    subst e
    have := Option.some.inj (h.symm.trans h')
    injection this with _ e2 _
    exact hne e2
  refine ⟨b6, b7, b8, e6, e7, e8, ⟨hb, hb.size, fun x hx => ?_, ?_, fun x hx => (by cases hx), fun x hx => (by cases hx), List.Pairwise.nil⟩⟩
  · simp only [List.mem_cons, List.not_mem_nil, or_false] at hx
    rcases hx with rfl | rfl | rfl | rfl
    · exact ⟨Nat.le_of_lt l6, B6⟩
    · exact ⟨Nat.le_of_lt l7, B7⟩
    · exact ⟨Nat.le_of_lt l8, B8⟩
    · exact ⟨Nat.le_refl _, hm⟩
  · refine List.pairwise_cons.2 ⟨fun y hy => ?_, List.pairwise_cons.2 ⟨fun y hy => ?_, List.pairwise_cons.2 ⟨fun y hy => ?_, List.pairwise_singleton _ _⟩⟩⟩
    · simp only [List.mem_cons, List.not_mem_nil, or_false] at hy
      rcases hy with rfl | rfl | rfl
      · exact diff B6 B7 h1
      · exact diff B6 B8 h2
      · simp only; omega
    · simp only [List.mem_cons, List.not_mem_nil, or_false] at hy
      rcases hy with rfl | rfl
      · exact diff B7 B8 h3
      · simp only; omega
    · simp only [List.mem_cons, List.not_mem_nil, or_false] at hy
      subst hy
      simp only; omega
theorem cls_info (m : Mch) : (Try.prog.info? 64).map (·.size) = some (clsV m).length := nvs16_info _
theorem cls_ones (m : Mch) : ∀ v ∈ clsV m, v.oneCell' = true := nvs_one _ _
theorem trv_info (m : Mch) : (Try.prog.info? 65).map (·.size) = some (trvV m).length := by rw [show (trvV m).length = 16 by simp [trvV, bls]]; kernel_rfl
theorem trv_ones (m : Mch) : ∀ v ∈ trvV m, v.oneCell' = true := fun v hv => by simp only [trvV, bls, List.mem_map] at hv; obtain ⟨z, _, rfl⟩ := hv; rfl
theorem cls_len (m : Mch) : (clsV m).length = 16 := by simp [clsV, nvs]
theorem trv_len (m : Mch) : (trvV m).length = 16 := by simp [trvV, bls]

/-- two slices of rows, and what they hold -/
def gT (q : Value) (rq : List Value) (Q : List Wd) (s : Value) (rs : List Value) (S : List Wd) : List (Value × TypeId × List Value) :=
  (q, 26, rq) :: (s, 26, rs) :: (rowG rq Q ++ rowG rs S)
theorem gT_first {q s v : Value} {rq rs : List Value} {Q S : List Wd} {g : Wd} (hl : rq.length = Q.length) :
    ((v, 2, i64s g) :: (q, 26, rq ++ [v]) :: (s, 26, rs) :: (rowG rq Q ++ rowG rs S)).Perm (gT q (rq ++ [v]) (Q ++ [g]) s rs S) := by
  rw [gT, rowG_snoc v g hl]
  refine (List.Perm.swap _ _ _).trans (List.Perm.cons _ ((List.Perm.swap _ _ _).trans (List.Perm.cons _ ?_)))
  rw [List.append_assoc]
  exact List.perm_middle.symm
theorem gT_second {q s v : Value} {rq rs : List Value} {Q S : List Wd} {g : Wd} (hl : rs.length = S.length) :
    ((v, 2, i64s g) :: (q, 26, rq) :: (s, 26, rs ++ [v]) :: (rowG rq Q ++ rowG rs S)).Perm (gT q rq Q s (rs ++ [v]) (S ++ [g])) := by
  rw [gT, rowG_snoc v g hl]
  refine (List.Perm.swap _ _ _).trans (List.Perm.cons _ ((List.Perm.swap _ _ _).trans (List.Perm.cons _ ?_)))
  rw [← List.append_assoc]
  exact (List.perm_append_singleton _ _).symm
theorem gT_drop {q s : Value} {rq rs : List Value} {Q S : List Wd} : ((q, 26, rq) :: rowG rq Q).Sublist (gT q rq Q s rs S) :=
  List.Sublist.cons_cons _ (List.Sublist.cons _ (List.sublist_append_left _ _))
theorem gT_rows {q s : Value} {rq rs : List Value} {Q S : List Wd} : ∀ x ∈ rowG rq Q, x ∈ gT q rq Q s rs S := fun x hx => List.mem_cons_of_mem _ (List.mem_cons_of_mem _ (List.mem_append_left _ hx))
theorem gT_rows2 {q s : Value} {rq rs : List Value} {Q S : List Wd} : ∀ x ∈ rowG rs S, x ∈ gT q rq Q s rs S := fun x hx => List.mem_cons_of_mem _ (List.mem_cons_of_mem _ (List.mem_append_right _ hx))
theorem gT_start {q s : Value} {rq : List Value} {Q : List Wd} : ((s, 26, []) :: (q, 26, rq) :: rowG rq Q).Perm (gT q rq Q s [] []) := by
  rw [gT]
  have : rowG [] ([] : List Wd) = [] := rfl
  rw [this, List.append_nil]
  exact List.Perm.swap _ _ _
theorem Mm.slQ {B : Nat} {w0 w : World} {L : List (Nat × List Value × TypeId)} {G : List (Value × TypeId × List Value)} (h : Mm B w0 w L G) {v : Value} {rq : List Value} {Q : List Wd} (hl : rq.length = Q.length) (hv : (v, 26, rq) ∈ G) (hr : ∀ x ∈ rowG rq Q, x ∈ G) : SlII w v Q := by
  have ho := h.own _ hv
  simp only at ho
  rcases ho.2 with ⟨e, h0⟩ | ⟨g, cap, cur, e, h1, hg, h2, h3, h4, h5⟩
  · exact ⟨none, 0, by rw [e, ← hl, h0], fun i hi => by omega⟩
  · refine ⟨some ⟨g, 0, none⟩, cap, by rw [e, hl], fun i hi => ⟨g, 0, rfl, ?_⟩⟩
    obtain ⟨g', c', a, d, e1, e2, e3⟩ := h.readQ hl hv hr hi
    rw [e] at e1
    injection e1 with e1 _ _
    injection e1 with e1
    injection e1 with e1
    subst e1
    exact ⟨a, d, by rw [Nat.zero_add]; exact e2, e3⟩

/-- a new slice of one's own -/
theorem Mm.newOwn {B : Nat} {w0 w : World} {L : List (Nat × List Value × TypeId)} {G : List (Value × TypeId × List Value)} (h : Mm B w0 w L G) (cs : Array Value) (T : TypeId) (n : Nat) (hn : n = cs.toList.length) (hm : n ≤ 2000000) :
    Mm B w0 (w.alloc (.cells cs T)) L ((.slice (some ⟨w.heap.size, 0, none⟩) n n, T, cs.toList) :: G) := by
  have h2 := (h.alloc cs T).addOwn (b := w.heap.size) (cs := cs.toList) (T := T) (List.mem_cons_self ..) n hn hm
  have e : (List.filter (fun x : Nat × List Value × TypeId => x.1 != w.heap.size) ((w.heap.size, cs.toList, T) :: L)) = L := by
    rw [List.filter_cons]
    simp only [bne_self_eq_false, Bool.false_eq_true, if_false]
    rw [List.filter_eq_self]
    intro x hx
    have := (h.blk x hx).2.lt
    simp only [bne_iff_ne, ne_eq]
    omega
  rwa [e] at h2

set_option maxRecDepth 100000 in
set_option maxHeartbeats 16000000 in
theorem l02Trivial_any (m : Mch) (hwf : m.Wf) (hok : m.Ok) (a : Option Addr) (g : Wd) (c : Nat) (hg : GW m g) (hl : g.length ≤ 1000) (w : World) (hI : IntsAt w a g) :
    Calls Try.prog 62 #[.agg m.cells.toArray, .slice a g.length c] w (Ret (.tuple #[.bool (trvR m g).1, .int .i64 (trvR m g).2]) w) := by
  obtain ⟨i0, hi, hz0, hz1, hz2⟩ := info_parts Try.info26
  have h3 := hok.l_le
  have HI := Lib.hid hI
  have HGW := Lib.hid hg
  have hwi := invM_wf hok hwf
  have HIM := Lib.hid (mach_info hwf)
  have hmx : Try.prog.follows .mixedOrders = true := by kernel_rfl
  have HMX := Lib.hid hmx
  clear hI hg hmx
  go_enter Try.func62, Try.ntmps62
  go_wp2_with fail
  obtain ⟨WB, hWB⟩ : ∃ WB, WB = (w.alloc (.cells m.cells.toArray 29)).drew := ⟨_, rfl⟩
  have hBm : Blk WB w.heap.size m.cells 29 := by rw [hWB]; exact (Blk.new w m.cells.toArray 29).drew
  have hBb : Below w.heap.size w WB := by rw [hWB]; exact (boxedBelow w m.cells.toArray 29).drew
  have HBm := Lib.hid hBm
  have HBb := Lib.hid hBb
  have HWB := Lib.hid hWB
  clear hBm hBb hWB
  refine region_S (fun W => Blk W w.heap.size m.cells 29) [] 12 rfl HMX.out (by rw [← HWB.out]; exact HBm.out) (fun hU => ?_)
  rw [← HWB.out] at hU ⊢
  (refine AnyS.takeS (i := 0) rfl (by kernel_rfl) (by kernel_rfl) (by kernel_rfl) (by rfl) (by kernel_rfl) (by kernel_rfl) (fun _ _ _ h => h) (by rfl) (fun W hW => run_ld Try.underlying29 rfl HIM.out (.tmp 2) rfl rfl hW.all) hU (fun hU => ?_); (try simp only [Act.put, List.setIfInBounds_toArray, List.set_cons_zero, List.set_cons_succ]))
  (refine AnyS.takeS (i := 2) rfl (by kernel_rfl) (by kernel_rfl) (by kernel_rfl) (by rfl) (by kernel_rfl) (by kernel_rfl) (fun _ _ _ h => h) (by rfl) (fun W hW => run_ld Try.underlying29 rfl HIM.out (.tmp 2) rfl rfl hW.all) hU (fun hU => ?_); (try simp only [Act.put, List.setIfInBounds_toArray, List.set_cons_zero, List.set_cons_succ]))
  (refine AnyS.takeS (i := 4) rfl (by kernel_rfl) (by kernel_rfl) (by kernel_rfl) (by rfl) (by kernel_rfl) (by kernel_rfl) (fun _ _ _ h => h) (by rfl) (fun W hW => run_ld Try.underlying29 rfl HIM.out (.tmp 2) rfl rfl hW.all) hU (fun hU => ?_); (try simp only [Act.put, List.setIfInBounds_toArray, List.set_cons_zero, List.set_cons_succ]))
  refine AnyS.inv (fun l ac W => ∃ (g1 g3 g5 f6 f7 f8 : Bool) (x6 x7 x8 v18 v20 v22 : Value), l = #[true, g1, true, g3, true, g5, f6, f7, f8, false, false, false] ∧
    ac = { tmps := #[.agg m.cells.toArray, .slice a g.length c, .pointer (some ⟨w.heap.size, 0, none⟩), undef, .bool false, .int .i64 0, x6, x7, x8, undef, undef, undef, undef, undef, undef, undef, undef, .agg m.cells.toArray, v18, .agg m.cells.toArray, v20, .agg m.cells.toArray, v22, undef, undef, undef, undef, undef, undef, undef, undef, undef, undef, undef, undef, undef, undef, undef, undef, undef, undef, undef, undef, undef, undef, undef, undef, undef, undef, undef, undef, undef, undef, undef, undef, undef, undef, undef, undef, undef, undef, undef, undef, undef, undef, undef, undef, undef, undef, undef, undef, undef, undef, undef, undef, undef, undef, undef, undef, undef, undef, undef, undef, undef, undef], defers := [] } ∧
    (g3 = true → g1 = true) ∧ (g5 = true → g3 = true) ∧ (g1 = true → v18 = .agg (invM m).cells.toArray) ∧ (g3 = true → v20 = .agg (clsV m).toArray) ∧ (g5 = true → v22 = .agg (trvV m).toArray) ∧
    P3 w W f6 x6 Try.zeroCells29.toList 29 ∧ P3 w W f7 x7 zI16.toList 64 ∧ P3 w W f8 x8 zB16.toList 65 ∧ Below w.heap.size w W ∧ Blk W w.heap.size m.cells 29) (fun l a W h => by
      obtain ⟨_, _, _, _, _, _, _, _, _, _, _, _, _, _, _, _, _, _, _, _, _, _, _, h⟩ := h
      exact h) ?_ _ _ _ _ ⟨false, false, false, false, false, false, undef, undef, undef, undef, undef, undef, rfl, rfl, (fun h => h), (fun h => h), (fun h => by cases h), (fun h => by cases h), (fun h => by cases h), P3.off _ _ _ _ _, P3.off _ _ _ _ _, P3.off _ _ _ _ _, HBb.out, HBm.out⟩ (Nat.le_of_eq (by kernel_rfl))
  clear hU
  rintro l ac W ⟨g1, g3, g5, f6, f7, f8, x6, x7, x8, v18, v20, v22, rfl, rfl, k1, k2, k3, k4, k5, k6, k7, k8, k9, k10⟩
  have hW0 := k10.lt
  by_cases hall : (g5 && f6 && f7 && f8) = true
  case neg =>
    right
    refine ⟨?_, ?_⟩
    · clear k3 k4 k5 k6 k7 k8 k9 k10
      cases g1 <;> cases g3 <;> cases g5 <;> cases f6 <;> cases f7 <;> cases f8 <;> first | (exact absurd (k1 rfl) (by decide)) | (exact absurd (k2 rfl) (by decide)) | (exact absurd rfl hall) | exact ready_ne (by kernel_rfl)
    · intro i hi
      have hmem : pr3 g1 g3 g5 f6 f7 f8 i = true := by
        clear k3 k4 k5 k6 k7 k8 k9 k10
        cases g1 <;> cases g3 <;> cases g5 <;> cases f6 <;> cases f7 <;> cases f8 <;> first | (exact absurd (k1 rfl) (by decide)) | (exact absurd (k2 rfl) (by decide)) | (exact absurd rfl hall) | exact all_mem (p := pr3 _ _ _ _ _ _) hi (by kernel_rfl)
      clear hi hall
      simp only [pr3, Bool.or_eq_true, Bool.and_eq_true, beq_iff_eq, Bool.not_eq_true'] at hmem
      have k10' := k10
      have hba : ∀ ob, Below W.heap.size W (W.alloc ob) := fun ob => (Below.refl _ _).alloc (Nat.le_refl _) _
      have HBA := Lib.hid hba
      have HK6 := Lib.hid k6
      have HK7 := Lib.hid k7
      have HK8 := Lib.hid k8
      have HK9 := Lib.hid k9
      have HK10 := Lib.hid k10
      have H1 := Lib.hid k1
      have H2 := Lib.hid k2
      have H3 := Lib.hid k3
      have H4 := Lib.hid k4
      have H5 := Lib.hid k5
      clear k1 k2 k3 k4 k5 k6 k7 k8 k9 k10 k10' hba
      rcases hmem with ((((⟨rfl, rfl⟩ | ⟨⟨rfl, rfl⟩, rfl⟩) | ⟨⟨rfl, rfl⟩, rfl⟩) | ⟨rfl, rfl⟩) | ⟨rfl, rfl⟩) | ⟨rfl, rfl⟩
      · refine wpOp_step rfl (fun K hK => ?_)
        have HK := Lib.hid hK
        clear hK
        go_simp
        refine (l01Inverse_any m hwf hok _).mono ?_
        rintro e w4 ⟨rfl, hb4⟩
        (try simp only [Act.put, List.setIfInBounds_toArray, List.set_cons_zero, List.set_cons_succ])
        exact HK.out _ _ ⟨true, g3, g5, f6, f7, f8, x6, x7, x8, .agg (invM m).cells.toArray, v20, v22, rfl, rfl, fun _ => rfl, H2.out, fun _ => rfl, H4.out, H5.out, HK6.out.keep hb4, HK7.out.keep hb4, HK8.out.keep hb4, HK9.out.trans (hb4.mono (Nat.le_of_lt hW0)), HK10.out.keep hb4⟩
      · refine wpOp_step rfl (fun K hK => ?_)
        have HK := Lib.hid hK
        clear hK
        go_simp
        refine (l01Classes_any m hwf hok _).mono ?_
        rintro e w4 ⟨rfl, hb4⟩
        (try simp only [Act.put, List.setIfInBounds_toArray, List.set_cons_zero, List.set_cons_succ])
        exact HK.out _ _ ⟨true, true, g5, f6, f7, f8, x6, x7, x8, v18, .agg (clsV m).toArray, v22, rfl, rfl, fun _ => rfl, fun _ => rfl, H3.out, fun _ => rfl, H5.out, HK6.out.keep hb4, HK7.out.keep hb4, HK8.out.keep hb4, HK9.out.trans (hb4.mono (Nat.le_of_lt hW0)), HK10.out.keep hb4⟩
      · obtain rfl := H1.out rfl
        refine wpOp_step rfl (fun K hK => ?_)
        have HK := Lib.hid hK
        clear hK
        go_simp
        refine (l01Trivial_any m hwf hok _).mono ?_
        rintro e w4 ⟨rfl, hb4⟩
        (try simp only [Act.put, List.setIfInBounds_toArray, List.set_cons_zero, List.set_cons_succ])
        exact HK.out _ _ ⟨true, true, true, f6, f7, f8, x6, x7, x8, v18, v20, .agg (trvV m).toArray, rfl, rfl, fun _ => rfl, fun _ => rfl, H3.out, H4.out, fun _ => rfl, HK6.out.keep hb4, HK7.out.keep hb4, HK8.out.keep hb4, HK9.out.trans (hb4.mono (Nat.le_of_lt hW0)), HK10.out.keep hb4⟩
      · refine wpOp_step rfl (fun K hK => ?_)
        have HK := Lib.hid hK
        clear hK
        go_simp
        (try simp only [Act.put, List.setIfInBounds_toArray, List.set_cons_zero, List.set_cons_succ])
        exact HK.out _ _ ⟨g1, g3, g5, true, f7, f8, _, x7, x8, v18, v20, v22, rfl, rfl, H1.out, H2.out, H3.out, H4.out, H5.out, P3.new hW0 _ _ _, HK7.out.keep (HBA.out _), HK8.out.keep (HBA.out _), HK9.out.trans ((HBA.out _).mono (Nat.le_of_lt hW0)), HK10.out.keep (HBA.out _)⟩
      · refine wpOp_step rfl (fun K hK => ?_)
        have HK := Lib.hid hK
        clear hK
        go_simp
        (try simp only [Act.put, List.setIfInBounds_toArray, List.set_cons_zero, List.set_cons_succ])
        exact HK.out _ _ ⟨g1, g3, g5, f6, true, f8, x6, _, x8, v18, v20, v22, rfl, rfl, H1.out, H2.out, H3.out, H4.out, H5.out, HK6.out.keep (HBA.out _), P3.new hW0 _ _ _, HK8.out.keep (HBA.out _), HK9.out.trans ((HBA.out _).mono (Nat.le_of_lt hW0)), HK10.out.keep (HBA.out _)⟩
      · refine wpOp_step rfl (fun K hK => ?_)
        have HK := Lib.hid hK
        clear hK
        go_simp
        (try simp only [Act.put, List.setIfInBounds_toArray, List.set_cons_zero, List.set_cons_succ])
        exact HK.out _ _ ⟨g1, g3, g5, f6, f7, true, x6, x7, _, v18, v20, v22, rfl, rfl, H1.out, H2.out, H3.out, H4.out, H5.out, HK6.out.keep (HBA.out _), HK7.out.keep (HBA.out _), P3.new hW0 _ _ _, HK9.out.trans ((HBA.out _).mono (Nat.le_of_lt hW0)), HK10.out.keep (HBA.out _)⟩
  left
  intro n hn
  simp only [Bool.and_eq_true] at hall
  obtain ⟨⟨⟨rfl, rfl⟩, rfl⟩, rfl⟩ := hall
  obtain rfl := k2 rfl
  obtain rfl := k1 rfl
  obtain rfl := k3 rfl
  obtain rfl := k4 rfl
  obtain rfl := k5 rfl
  obtain ⟨b6, b7, b8, rfl, rfl, rfl, hM⟩ := P3.mm k6 k7 k8 k9 k10 (by decide) (by decide) (by decide)
  clear k1 k2 k3 k4 k5 k6 k7 k8 k9 k10
  obtain ⟨n', rfl⟩ : ∃ n', n = n' + 3 := ⟨n - 3, by have h3 : leftN 12 #[true, true, true, true, true, true, true, true, true, false, false, false] = 3 := (by kernel_rfl); have hn' : leftN 12 #[true, true, true, true, true, true, true, true, true, false, false, false] ≤ n := hn; omega⟩
  clear hn
  have hU : Upto (fun W => Blk W w.heap.size m.cells 29) [] #[true, true, true, true, true, true, true, true, true, false, false, false] W := .inl (hM.at 3 rfl)
  have ht := (hM.at 0 rfl).there 0 (invM m).cells.length (by simp only; rw [zero_len, Mch.cells_length hwi]; omega)
  have hM1 := hM.setAll 0 rfl (vs := (invM m).cells) (by rw [zero_len, Mch.cells_length hwi])
  simp only [List.set_cons_zero] at hM1
  have hBl := hM1.at 3 rfl
  simp only at hBl
  have HBl := Lib.hid hBl
  clear hBl
  (refine AnyS.branch (rs := [9]) (by kernel_rfl) (List.cons_ne_nil _ _) ?_; refine AllS.cons rfl ?_ AllS.nil; intro K hK)
  refine ite_of (by kernel_rfl) ?_
  refine wp_st 29 (.tmp 6) (.tmp 18) rfl b6 0 (invM m).cells rfl rfl ht (mach_infoT hwi) (mach_ones _) ?_
  refine hK.out _ _ (.inl HBl.out) (fun hU => ?_)
  clear hK K ht hM HBl
  (try simp only [Act.put, List.setIfInBounds_toArray, List.set_cons_zero, List.set_cons_succ])
  generalize W.setCells b6 0 (invM m).cells = W1 at *
  have ht := (hM1.at 1 rfl).there 0 (clsV m).length (by simp only [cls_len]; exact Nat.le_refl _)
  have hM2 := hM1.setAll 1 rfl (vs := clsV m) (by rw [cls_len]; rfl)
  simp only [List.set_cons_zero, List.set_cons_succ] at hM2
  have hBl := hM2.at 3 rfl
  simp only at hBl
  have HBl := Lib.hid hBl
  clear hBl
  (refine AnyS.branch (rs := [10]) (by kernel_rfl) (List.cons_ne_nil _ _) ?_; refine AllS.cons rfl ?_ AllS.nil; intro K hK)
  refine ite_of (by kernel_rfl) ?_
  refine wp_st 64 (.tmp 7) (.tmp 20) rfl b7 0 (clsV m) rfl rfl ht (cls_info m) (cls_ones _) ?_
  refine hK.out _ _ (.inl HBl.out) (fun hU => ?_)
  clear hK K ht hM1 HBl
  (try simp only [Act.put, List.setIfInBounds_toArray, List.set_cons_zero, List.set_cons_succ])
  generalize W1.setCells b7 0 (clsV m) = W2 at *
  have ht := (hM2.at 2 rfl).there 0 (trvV m).length (by simp only [trv_len]; exact Nat.le_refl _)
  have hM3 := hM2.setAll 2 rfl (vs := trvV m) (by rw [trv_len]; rfl)
  simp only [List.set_cons_zero, List.set_cons_succ] at hM3
  have hBl := hM3.at 3 rfl
  simp only at hBl
  have HBl := Lib.hid hBl
  clear hBl
  (refine AnyS.branch (rs := [11]) (by kernel_rfl) (List.cons_ne_nil _ _) ?_; refine AllS.cons rfl ?_ AllS.nil; intro K hK)
  refine ite_of (by kernel_rfl) ?_
  refine wp_st 65 (.tmp 8) (.tmp 22) rfl b8 0 (trvV m) rfl rfl ht (trv_info m) (trv_ones _) ?_
  refine hK.out _ _ (.inl HBl.out) (fun hU => ?_)
  clear hK K ht hM2 HBl
  (try simp only [Act.put, List.setIfInBounds_toArray, List.set_cons_zero, List.set_cons_succ])
  refine AnyS.done (by kernel_rfl) ?_ _
  clear hU
  generalize W2.setCells b8 0 (trvV m) = W3 at *
  have HNRM : Hid (∀ a (g : Wd) c W, GW m g → g.length ≤ 1000 → IntsAt W a g → Calls Try.prog 87 #[.slice a g.length c, .agg (clsV m).toArray, .agg (trvV m).toArray] W fun e w' => ∃ v, e = .returned v ∧ Below W.heap.size W w' ∧ OwnI w' W.heap.size v (nrm m g)) := fun a g c W h1 h2 h3 => l02Normal_any m hok a g c h1 h2 W h3
  have HLED : Hid (∀ a (g : Wd) c (x : Nat) W, GW m g → g.length ≤ 1000 → x < m.l → IntsAt W a g → Calls Try.prog 86 #[.agg m.cells.toArray, .agg (invM m).cells.toArray, .slice a g.length c, .int .u8 (x : Int)] W fun e w' => ∃ v, e = .returned (.tuple #[.int .u8 (ledX m g x : Int), v]) ∧ Below W.heap.size W w' ∧ OwnI w' W.heap.size v (ledS m g x)) := fun a g c x W h1 h2 h3 h4 => l02Led_any m hwf hok a g c h1 h2 x h3 W h4
  have HCI := Lib.hid (cls_info m)
  have HTI := Lib.hid (trv_info m)
  have HII := Lib.hid (mach_info hwi)
  have HW3 : Hid (Below w.heap.size w W3) := hM3.below
  clear hwi
  generalize clsV m = CV at *
  generalize trvV m = TV at *
  generalize invM m = IV at *
  have hcv := (hM3.at 1 rfl).all
  have htv := (hM3.at 2 rfl).all
  simp only at hcv htv
  go_wp2_with (first | ((with_reducible refine ld_row ?_ 64 (.tmp 7) ?_ b7 0 ?_ CV (.array 16 2) hcv Try.underlying64 ?_ HCI.out ?_); exact rfl; exact rfl; exact rfl; exact rfl) | ((with_reducible refine ld_row ?_ 65 (.tmp 8) ?_ b8 0 ?_ TV (.array 16 4) htv Try.underlying65 ?_ HTI.out ?_); exact rfl; exact rfl; exact rfl; exact rfl))
  refine (HNRM.out a g c _ HGW.out hl (HI.out.keep HW3.out)).mono ?_
  rintro e w4 ⟨v, rfl, hb4, hO4⟩
  have hM4 := hM3.callOwn hb4 hO4 (by simp [i64s])
  obtain ⟨av, cv, rfl, -⟩ := hO4.form
  have hM5 := hM4.newOwn #[.slice av (nrm m g).length cv] 26 1 rfl (by omega)
  have HM5 := Lib.hid hM5
  obtain ⟨LB, hLB⟩ : ∃ LB : List (Nat × List Value × TypeId), LB = [(b6, IV.cells, 29), (b7, CV, 64), (b8, TV, 65), (w.heap.size, m.cells, 29)] := ⟨_, rfl⟩
  rw [← hLB] at HM5
  have HS10 : Hid (∀ W G, Mm w.heap.size w W LB G → MAt W w.heap.size 0 m ∧ MAt W b6 0 IV) := fun W G h => by
    rw [hLB] at h
    exact ⟨h.mach 3 rfl, h.mach 0 rfl⟩
  have HS17 : Hid (∀ W G, Mm w.heap.size w W LB G → W.rangeAt b7 0 CV ∧ W.rangeAt b8 0 TV) := fun W G h => by
    rw [hLB] at h
    exact ⟨(h.at 1 rfl).all, (h.at 2 rfl).all⟩
  clear hcv htv hM3 hM4 hM5 hO4 hLB
  go_wp2_with fail
  go_loopw [9, 10] (fun v9 i wr => ∃ (j : Nat) (rq : List Value) (Q : List Wd) (N : List (List Nat)), i = .int .i64 j ∧ j ≤ 200 ∧ Mm w.heap.size w wr LB ((v9, 26, rq) :: rowG rq Q) ∧ Hid (bSt m (leavesB m) g j = .ok (Q, N) ∧ rq.length = Q.length ∧ N.length = j)) (fun _ i _ => 200 - (intOf i).toNat)
  case atStart => exact ⟨0, [.slice av (nrm m g).length cv], [nrm m g], [], rfl, by omega, HM5.out, rfl, rfl, rfl⟩
  case round =>
    clear HM5
    obtain ⟨j, rq, Q, N, rfl, hj, hQ, HB⟩ := hrel
    have hB := HB.out
    obtain ⟨hok1, -, -⟩ := bSt_ok hok hwf (leavesB m) HGW.out j hB.1
    have hmany := hok1.many
    have hrl := hB.2.1
    have ho := hQ.own _ (List.mem_cons_self ..)
    simp only at ho
    obtain ⟨g9, c9, rfl, -, -, -⟩ := own_form ho (by rw [hrl]; have := hok1.pos; omega)
    rw [hrl] at ho hQ ⊢
    clear ho
    by_cases hlt : j < Q.length
    · have hNl : N.length < 200 := by have := hB.2.2; omega
      have hw' := hok1.toQOk.at hlt
      obtain ⟨hh, hhe⟩ : ∃ hh, hh = Q[j]?.getD [] := ⟨_, rfl⟩
      rw [← hhe] at hw'
      have HH := Lib.hid hhe
      have HBN : Hid (bSt m (leavesB m) g (j + 1) = if leavesB m hh = true then (match qRow m hh m.l Q with | none => .error 3 | some (Q', r) => .ok (Q', N ++ [r])) else .error 5) := by
        show _ = _; rw [bSt, hB.1]; simp only; rw [if_pos hlt, ← hhe]; rfl
      have i1 : (0 : Int) ≤ (j : Int) := by omega
      have i2 : (j : Int) < (Q.length : Int) := by omega
      have HNL := Lib.hid hNl
      have HQ1 := Lib.hid ((hQ.newOwn #[] 26 0 rfl (by omega)).permG gT_start)
      have HRD : Hid (∀ W s rs S, Mm w.heap.size w W LB (gT (.slice (some ⟨g9, 0, none⟩) Q.length c9) rq Q s rs S) → ∃ a' d', W.cell? ⟨g9, j, none⟩ = some (.slice a' hh.length d') ∧ IntsAt W a' hh) := fun W s rs S h => by
        obtain ⟨g', c', a', d', e1, e2, e3⟩ := h.readQ hrl (List.mem_cons_self ..) gT_rows hlt
        injection e1 with e1 _ _
        injection e1 with e1
        injection e1 with e1
        subst e1
        rw [← hhe] at e2 e3
        exact ⟨a', d', e2, e3⟩
      clear hhe hB hok1 hQ
      go_wp2_with fail
      obtain ⟨wo, hwo⟩ : ∃ wo : World, wo = wr.alloc (.cells #[] 26) := ⟨_, rfl⟩
      obtain ⟨bs, hbs⟩ : ∃ bs, bs = wr.heap.size := ⟨_, rfl⟩
      rw [← hwo, ← hbs] at HQ1 ⊢
      clear hwo hbs
      go_loopw [11, 12] (fun v11 i wr => ∃ (x : Nat) (rs : List Value) (S : List Wd), i = .int .i64 x ∧ x ≤ m.l ∧ Mm w.heap.size w wr LB (gT (.slice (some ⟨g9, 0, none⟩) Q.length c9) rq Q v11 rs S) ∧ Hid (S = (List.range x).map (fun y => ledS m hh y) ∧ rs.length = S.length ∧ ∀ y, y < x → ledX m hh y = y)) (fun _ i _ => m.l - (intOf i).toNat)
      case atStart => exact ⟨0, [], [], rfl, Nat.zero_le _, HQ1.out, rfl, rfl, fun y hy => by omega⟩
      case round =>
        clear HQ1
        obtain ⟨x, rs, S, rfl, hx, hM, HS⟩ := hrel
        have cl := (HS10.out _ _ hM).1.l
        rw [hok.L_eq] at cl
        by_cases hxl : x < m.l
        · have i3 : (0 : Int) ≤ (x : Int) := by omega
          have i4 : (x : Int) < (m.l : Int) := by omega
          have e8 := IntWalk.u8_in (x : Int) ⟨by omega, by omega⟩
          go_wp2_with fail
          have hMd := hM.drew
          obtain ⟨a', d', hc1, hI1⟩ := HRD.out _ _ _ _ hMd
          have HI1 := Lib.hid hI1
          have HSM : Hid (∀ W, Below wr.drew.heap.size wr.drew W → MAt W w.heap.size 0 m ∧ MAt W b6 0 IV ∧ W.cell? ⟨g9, j, none⟩ = some (.slice a' hh.length d')) := fun W hW => by
            have h1 := HS10.out _ _ (hMd.call hW)
            exact ⟨h1.1, h1.2, (hW.cell (World.block_lt_of_cell? _ _ hc1)).trans hc1⟩
          refine region_S (fun W => MAt W w.heap.size 0 m ∧ MAt W b6 0 IV ∧ W.cell? ⟨g9, j, none⟩ = some (.slice a' hh.length d')) [] 14 rfl HMX.out (HSM.out _ (Below.refl _ _)) (fun hU => ?_)
          obtain ⟨W, hW⟩ : ∃ W, W = wr.drew := ⟨_, rfl⟩
          rw [← hW] at hU hMd HSM HI1 ⊢
          clear hW hM hc1 hI1 cl
          (refine AnyS.takeS (i := 0) rfl (by kernel_rfl) (by kernel_rfl) (by kernel_rfl) (by rfl) (by kernel_rfl) (by kernel_rfl) (fun _ _ _ h => h) (by rfl) (fun W hW => run_ld Try.underlying29 rfl HIM.out (.tmp 2) rfl rfl hW.1) hU (fun hU => ?_); (try simp only [Act.put, List.setIfInBounds_toArray, List.set_cons_zero, List.set_cons_succ]))
          (refine AnyS.takeS (i := 1) rfl (by kernel_rfl) (by kernel_rfl) (by kernel_rfl) (by rfl) (by kernel_rfl) (by kernel_rfl) (fun _ _ _ h => h) (by rfl) (fun W hW => run_ld Try.underlying29 rfl HII.out (.tmp 6) rfl rfl hW.2.1) hU (fun hU => ?_); (try simp only [Act.put, List.setIfInBounds_toArray, List.set_cons_zero, List.set_cons_succ]))
          (refine AnyS.take (i := 2) rfl (by kernel_rfl) (by kernel_rfl) (by kernel_rfl) (by rfl) (fun _ _ _ h => h) (by rfl) (by intro w; go_simp; with_reducible rfl) hU (fun hU => ?_); (try simp only [Act.put, List.setIfInBounds_toArray, List.set_cons_zero, List.set_cons_succ]); refine AnyS.take (i := 3) rfl (by kernel_rfl) (by kernel_rfl) (by kernel_rfl) (by rfl) (fun _ _ _ h => h) (by rfl) (by intro w; go_simp; with_reducible rfl) hU (fun hU => ?_); (try simp only [Act.put, List.setIfInBounds_toArray, List.set_cons_zero, List.set_cons_succ]); refine AnyS.take (i := 4) rfl (by kernel_rfl) (by kernel_rfl) (by kernel_rfl) (by rfl) (fun _ _ _ h => h) (by rfl) (by intro w; go_simp; with_reducible rfl) hU (fun hU => ?_); (try simp only [Act.put, List.setIfInBounds_toArray, List.set_cons_zero, List.set_cons_succ]))
          (refine AnyS.takeS (i := 5) rfl (by kernel_rfl) (by kernel_rfl) (by kernel_rfl) (by rfl) (by kernel_rfl) (by kernel_rfl) (fun _ _ _ h => h) (by rfl) (by intro W hSw; have h1 := hSw.2.2; clear hSw; go_simp; with_reducible rfl) hU (fun hU => ?_); (try simp only [Act.put, List.setIfInBounds_toArray, List.set_cons_zero, List.set_cons_succ]))
          (refine AnyS.take (i := 6) rfl (by kernel_rfl) (by kernel_rfl) (by kernel_rfl) (by rfl) (fun _ _ _ h => h) (by rfl) (by intro w; go_simp; with_reducible rfl) hU (fun hU => ?_); (try simp only [Act.put, List.setIfInBounds_toArray, List.set_cons_zero, List.set_cons_succ]); refine AnyS.take (i := 7) rfl (by kernel_rfl) (by kernel_rfl) (by kernel_rfl) (by rfl) (fun _ _ _ h => h) (by rfl) (by intro w; go_simp; with_reducible rfl) hU (fun hU => ?_); (try simp only [Act.put, List.setIfInBounds_toArray, List.set_cons_zero, List.set_cons_succ]))
          refine AnyS.branch (rs := [8]) (by kernel_rfl) (by simp) (AllS.cons rfl (fun K hK => ?_) AllS.nil)
          go_simp
          refine (HLED.out a' hh d' x _ hw'.1 (by omega) hxl HI1.out).mono ?_
          rintro e w5 ⟨v, rfl, hb5, hO5⟩
          have hM5 := hMd.callOwn hb5 hO5 (by simp [i64s])
          refine hK.out _ _ (.inl (HSM.out _ hb5)) (fun hU => ?_)
          clear hK K hMd
          (try simp only [Act.put, List.setIfInBounds_toArray, List.set_cons_zero, List.set_cons_succ])
          (refine AnyS.take (i := 9) rfl (by kernel_rfl) (by kernel_rfl) (by kernel_rfl) (by rfl) (fun _ _ _ h => h) (by rfl) (by intro w; go_simp; with_reducible rfl) hU (fun hU => ?_); (try simp only [Act.put, List.setIfInBounds_toArray, List.set_cons_zero, List.set_cons_succ]); refine AnyS.take (i := 10) rfl (by kernel_rfl) (by kernel_rfl) (by kernel_rfl) (by rfl) (fun _ _ _ h => h) (by rfl) (by intro w; go_simp; with_reducible rfl) hU (fun hU => ?_); (try simp only [Act.put, List.setIfInBounds_toArray, List.set_cons_zero, List.set_cons_succ]); refine AnyS.take (i := 11) rfl (by kernel_rfl) (by kernel_rfl) (by kernel_rfl) (by rfl) (fun _ _ _ h => h) (by rfl) (by intro w; go_simp; with_reducible rfl) hU (fun hU => ?_); (try simp only [Act.put, List.setIfInBounds_toArray, List.set_cons_zero, List.set_cons_succ]); refine AnyS.take (i := 12) rfl (by kernel_rfl) (by kernel_rfl) (by kernel_rfl) (by rfl) (fun _ _ _ h => h) (by rfl) (by intro w; go_simp; with_reducible rfl) hU (fun hU => ?_); (try simp only [Act.put, List.setIfInBounds_toArray, List.set_cons_zero, List.set_cons_succ]); refine AnyS.take (i := 13) rfl (by kernel_rfl) (by kernel_rfl) (by kernel_rfl) (by rfl) (fun _ _ _ h => h) (by rfl) (by intro w; go_simp; with_reducible rfl) hU (fun hU => ?_); (try simp only [Act.put, List.setIfInBounds_toArray, List.set_cons_zero, List.set_cons_succ]))
          refine AnyS.done (by kernel_rfl) ?_ _
          clear hU
          obtain ⟨a5, c5, rfl, -⟩ := hO5.form
          have hyl : ledX m hh x < m.l := ledX_lt hok hwf hw'.1 hxl
          have hMB := hM5.below
          have HSL : Hid (S.length = x) := by show _ = _; rw [HS.out.1]; simp
          have hrs : rs.length ≤ 1000000 := by rw [HS.out.2.1, HSL.out]; omega
          by_cases hyx : ledX m hh x = x
          · have HSN : Hid (S ++ [ledS m hh x] = (List.range (x + 1)).map (fun y => ledS m hh y)) := by
              show _ = _; rw [List.range_succ, List.map_append, ← HS.out.1]; rfl
            have HYN : Hid (∀ y, y < x + 1 → ledX m hh y = y) := fun y hy => by
              by_cases e : y = x
              · subst e; exact hyx
              · exact HS.out.2.2 y (by omega)
            rw [hyx]
            have hM6 : Mm w.heap.size w w5 LB ((.slice a5 (ledS m hh x).length c5, 2, i64s (ledS m hh x)) :: (.slice (some ⟨g9, 0, none⟩) Q.length c9, 26, rq) :: (u11, 26, rs) :: (rowG rq Q ++ rowG rs S)) := hM5
            have HRL := Lib.hid HS.out.2.1
            clear hM5 hO5 hyx hb5
            generalize ledS m hh x = sx at *
            go_wp2_with (at_builtin; refine Mm.append rfl (.tmp 57) (.tmp 59) 35 rfl hM6 2 rfl Try.underlying35 hi hz0 hz1 hz2 rfl rfl rfl rfl hrs (by omega) ?_)
            intro g' cap' w7 hM7
            have HM7 : Hid (Mm w.heap.size w w7 LB (gT (.slice (some ⟨g9, 0, none⟩) Q.length c9) rq Q (.slice (some ⟨g', 0, none⟩) (rs.length + 1) cap') (rs ++ [.slice a5 sx.length c5]) (S ++ [sx]))) := hM7.permG (gT_second HRL.out)
            clear hM6 hM7
            go_wp2_with fail
            go_roundw
            case rel => exact ⟨x + 1, _, S ++ [sx], by go_num, by omega, HM7.out, HSN.out, by simp [HRL.out], HYN.out⟩
            case measure => simp [intOf] <;> omega
          · have HLV : Hid (leavesB m hh = false) := leaves_not hxl hyx
            have HTR : Hid (trvR m g = (false, 0)) := by
              have h2 := HBN.out
              rw [HLV.out] at h2
              exact trvR_five (secR_err h2 (by have := HNL.out; omega))
            clear hM5 hO5 hb5
            generalize ledX m hh x = y at *
            have e9 : ((y : Int) != (x : Int)) = true := by simp; omega
            clear hyx
            go_wp2_with fail
            go_ret2
            rw [HTR.out]
            exact ⟨rfl, hMB⟩
        · have hx' : x = m.l := by omega
          subst hx'
          have HLV : Hid (leavesB m hh = true) := leaves_upto HS.out.2.2 rfl
          have HBN2 : Hid (bSt m (leavesB m) g (j + 1) = (match qRow m hh m.l Q with | none => .error 3 | some (Q', r) => .ok (Q', N ++ [r]))) := by
            show _ = _; rw [HBN.out, HLV.out]; rfl
          have HSE := Lib.hid HS.out.1
          have HSL := Lib.hid HS.out.2.1
          have HM8 := Lib.hid hM
          clear HBN HLV HS hM
          go_wp2_with fail
          clear cl
          obtain ⟨v9, hv9⟩ : ∃ v9, v9 = Value.slice (some ⟨g9, 0, none⟩) Q.length c9 := ⟨_, rfl⟩
          rw [← hv9] at HM8 ⊢
          clear hv9 HRD
          have HRQ := Lib.hid hrl
          clear hrl
          obtain ⟨wo, rfl⟩ : ∃ wo : World, wo = wr := ⟨_, rfl⟩
          have HLS : Hid (S.length = m.l) := by show _ = _; rw [HSE.out]; simp
          have hm8 := HM8.out
          have ho := hm8.own _ (List.mem_cons_of_mem _ (List.mem_cons_self ..))
          simp only at ho
          have h1s : 1 ≤ S.length := by rw [HLS.out]; have := hok.l_ge; omega
          obtain ⟨g11, c11, rfl, -, -, -⟩ := own_form ho (by rw [HSL.out]; omega)
          rw [HSL.out, HLS.out] at hm8 ⊢
          have HM8 := Lib.hid hm8
          clear ho h1s hm8
          go_loopw [9, 15] (fun v9 i wr => ∃ (x : Nat) (rq : List Value) (Q' : List Wd) (r : List Nat), i = .int .i64 x ∧ x ≤ m.l ∧ Mm w.heap.size w wr LB (gT v9 rq Q' (.slice (some ⟨g11, 0, none⟩) m.l c11) rs S) ∧ Hid (qRow m hh x Q = some (Q', r) ∧ rq.length = Q'.length)) (fun _ i _ => m.l - (intOf i).toNat)
          case atStart => exact ⟨0, rq, Q, [], rfl, Nat.zero_le _, HM8.out, rfl, HRQ.out⟩
          case round =>
            clear HM8
            obtain ⟨x, rq, Q', r, rfl, hx, hM, HR⟩ := hrel
            have hB := HB.out
            obtain ⟨hok1, -, -⟩ := bSt_ok hok hwf (leavesB m) HGW.out j hB.1
            obtain ⟨hq1, hq2, hq3, hq4, hq5⟩ := QOk.row hok hwf hw'.1 hw'.2 hx hok1.toQOk HR.out.1
            have hrl' := HR.out.2
            have hmany' := hq1.many
            by_cases hxl : x < m.l
            · obtain ⟨g', c', a', d', e1, e2, e3⟩ := hM.readQ HSL.out (List.mem_cons_of_mem _ (List.mem_cons_self ..)) gT_rows2 (by rw [HLS.out]; exact hxl)
              injection e1 with e1 e1b e1c
              injection e1 with e1
              injection e1 with e1
              subst e1
              clear e1b e1c
              have hSx : S[x]?.getD [] = ledS m hh x := by rw [HSE.out]; simp [hxl]
              rw [hSx] at e2 e3
              have hsg := ledS_gw hok hwf hw'.1 hxl
              have hsl := ledS_len m hh x
              have hnn := nrm_len m (ledS m hh x)
              have HNG := Lib.hid (nrm_gw hsg)
              have HSG := Lib.hid hsg
              have HQ1 := Lib.hid hq1
              have i3 : (0 : Int) ≤ (x : Int) := by omega
              have i4 : (x : Int) < (m.l : Int) := by omega
              have HRS : Hid (qRow m hh (x + 1) Q = match qPut Q' (nrm m (ledS m hh x)) with | none => none | some (Q'', a) => some (Q'', r ++ [a])) := by
                show _ = _; rw [qRow, HR.out.1]; rfl
              have hs1000 : (ledS m hh x).length ≤ 1000 := by omega
              have hn1000 : (nrm m (ledS m hh x)).length ≤ 1000 := by omega
              clear hok1 hq1 hq3 hq5 hsg hsl hnn hB hSx
              generalize ledS m hh x = sx at *
              have HE3 := Lib.hid e3
              have hMd := hM.drew
              have HSM : Hid (∀ W, Below wr.drew.heap.size wr.drew W → W.rangeAt b7 0 CV ∧ W.rangeAt b8 0 TV ∧ W.cell? ⟨g11, x, none⟩ = some (.slice a' sx.length d')) := fun W hW => by
                have h1 := HS17.out _ _ (hMd.call hW)
                exact ⟨h1.1, h1.2, (hW.cell (World.block_lt_of_cell? wr.drew _ e2)).trans e2⟩
              clear e2 e3
              go_wp2_with fail
              refine region_S (fun W => W.rangeAt b7 0 CV ∧ W.rangeAt b8 0 TV ∧ W.cell? ⟨g11, x, none⟩ = some (.slice a' sx.length d')) [] 8 rfl HMX.out (HSM.out _ (Below.refl _ _)) (fun hU => ?_)
              have HE3' : Hid (IntsAt wr.drew a' sx) := HE3.out
              obtain ⟨W, hW⟩ : ∃ W, W = wr.drew := ⟨_, rfl⟩
              rw [← hW] at hU hMd HSM HE3' ⊢
              clear hW hM HE3
              (refine AnyS.take (i := 0) rfl (by kernel_rfl) (by kernel_rfl) (by kernel_rfl) (by rfl) (fun _ _ _ h => h) (by rfl) (by intro w; go_simp; with_reducible rfl) hU (fun hU => ?_); (try simp only [Act.put, List.setIfInBounds_toArray, List.set_cons_zero, List.set_cons_succ]); refine AnyS.take (i := 1) rfl (by kernel_rfl) (by kernel_rfl) (by kernel_rfl) (by rfl) (fun _ _ _ h => h) (by rfl) (by intro w; go_simp; with_reducible rfl) hU (fun hU => ?_); (try simp only [Act.put, List.setIfInBounds_toArray, List.set_cons_zero, List.set_cons_succ]); refine AnyS.take (i := 2) rfl (by kernel_rfl) (by kernel_rfl) (by kernel_rfl) (by rfl) (fun _ _ _ h => h) (by rfl) (by intro w; go_simp; with_reducible rfl) hU (fun hU => ?_); (try simp only [Act.put, List.setIfInBounds_toArray, List.set_cons_zero, List.set_cons_succ]))
              (refine AnyS.takeS (i := 3) rfl (by kernel_rfl) (by kernel_rfl) (by kernel_rfl) (by rfl) (by kernel_rfl) (by kernel_rfl) (fun _ _ _ h => h) (by rfl) (by intro W hSw; have h1 := hSw.2.2; clear hSw; go_simp; with_reducible rfl) hU (fun hU => ?_); (try simp only [Act.put, List.setIfInBounds_toArray, List.set_cons_zero, List.set_cons_succ]))
              (refine AnyS.takeS (i := 4) rfl (by kernel_rfl) (by kernel_rfl) (by kernel_rfl) (by rfl) (by kernel_rfl) (by kernel_rfl) (fun _ _ _ h => h) (by rfl) (fun W hW => run_ld Try.underlying64 rfl HCI.out (.tmp 7) rfl rfl hW.1) hU (fun hU => ?_); (try simp only [Act.put, List.setIfInBounds_toArray, List.set_cons_zero, List.set_cons_succ]))
              (refine AnyS.takeS (i := 5) rfl (by kernel_rfl) (by kernel_rfl) (by kernel_rfl) (by rfl) (by kernel_rfl) (by kernel_rfl) (fun _ _ _ h => h) (by rfl) (fun W hW => run_ld Try.underlying65 rfl HTI.out (.tmp 8) rfl rfl hW.2.1) hU (fun hU => ?_); (try simp only [Act.put, List.setIfInBounds_toArray, List.set_cons_zero, List.set_cons_succ]))
              refine AnyS.branch (rs := [6]) (by kernel_rfl) (by simp) (AllS.cons rfl (fun K hK => ?_) AllS.nil)
              go_simp
              refine (HNRM.out a' sx d' _ HSG.out hs1000 HE3'.out).mono ?_
              rintro e w5 ⟨v, rfl, hb5, hO5⟩
              obtain ⟨T, hT⟩ : ∃ T, T = nrm m sx := ⟨_, rfl⟩
              rw [← hT] at hO5 HRS HNG hn1000
              have hM5 := hMd.callOwn hb5 hO5 (by simp [i64s])
              refine hK.out _ _ (.inl (HSM.out _ hb5)) (fun hU => ?_)
              clear hK K hMd hT
              (try simp only [Act.put, List.setIfInBounds_toArray, List.set_cons_zero, List.set_cons_succ])
              (refine AnyS.take (i := 7) rfl (by kernel_rfl) (by kernel_rfl) (by kernel_rfl) (by rfl) (fun _ _ _ h => h) (by rfl) (by intro w; go_simp; with_reducible rfl) hU (fun hU => ?_); (try simp only [Act.put, List.setIfInBounds_toArray, List.set_cons_zero, List.set_cons_succ]))
              refine AnyS.done (by kernel_rfl) ?_ _
              clear hU
              obtain ⟨a5, c5, rfl, hI5⟩ := hO5.form
              have hSQ : SlII w5 u9 Q' := hM5.slQ hrl' (List.mem_cons_of_mem _ (List.mem_cons_self ..)) (fun y hy => List.mem_cons_of_mem _ (gT_rows y hy))
              have HFD := Lib.hid (l02Find_any u9 Q' a5 T c5 (by omega) (fun i => by
                by_cases hi : i < Q'.length
                · have := (HQ1.out.at hi).2; omega
                · rw [List.getElem?_eq_none (by omega)]; simp) w5 hSQ hI5)
              have ho9 := hM5.own _ (List.mem_cons_of_mem _ (List.mem_cons_self ..))
              simp only at ho9
              have hpos : 1 ≤ Q'.length := by omega
              obtain ⟨g8, c8, rfl, -, -, -⟩ := own_form ho9 (by rw [hrl']; omega)
              rw [hrl'] at HFD hM5 ⊢
              clear hSQ hI5 hO5 hb5 ho9
              go_wp2_with fail
              refine HFD.out.mono ?_
              rintro e w6 ⟨rfl, n6, rfl⟩
              have hM6 := hM5.drewN n6
              have HRQ' := Lib.hid hrl'
              clear hM5 HFD
              by_cases hmem : T ∈ Q'
              · have HRX : Hid (qRow m hh (x + 1) Q = some (Q', r ++ [Q'.idxOf T])) := by show _ = _; rw [HRS.out, qPut, if_pos hmem]
                have hpl : plc Q' T = (Q'.idxOf T : Int) := by rw [plc, if_pos hmem]
                rw [hpl]
                generalize Q'.idxOf T = I at *
                have HM7 : Hid (Mm w.heap.size w (w5.drewN n6) LB (gT (.slice (some ⟨g8, 0, none⟩) Q'.length c8) rq Q' (.slice (some ⟨g11, 0, none⟩) m.l c11) rs S)) := hM6.subG (List.sublist_cons_self _ _)
                have hI0 : (0 : Int) ≤ (I : Int) := by omega
                clear hmem hpl hM6 HRS hrl'
                go_wp2_with fail
                go_roundw
                case rel => exact ⟨x + 1, rq, Q', r ++ [I], by go_num, by omega, HM7.out, HRX.out, HRQ'.out⟩
                case measure => simp [intOf] <;> omega
              · have hpl : plc Q' T = -1 := by rw [plc, if_neg hmem]
                rw [hpl]
                by_cases hfull : Q'.length = 200
                · have HRX : Hid (qRow m hh (x + 1) Q = none) := by show _ = _; rw [HRS.out, qPut, if_neg hmem, if_pos hfull]
                  have HRR : Hid (trvR m g = (false, 3)) := by
                    have h1 := qRow_stop HRX.out (m.l - (x + 1))
                    rw [show x + 1 + (m.l - (x + 1)) = m.l by omega] at h1
                    have h2 := HBN2.out
                    rw [h1] at h2
                    exact trvR_three (secR_err h2 (by have := HNL.out; omega))
                  have hf2 : ((Q'.length : Int) == 200) = true := by simp; omega
                  have hbl := hM6.below
                  clear hmem hpl hM6 HRS hrl'
                  go_wp2_with fail
                  go_ret2
                  rw [HRR.out]
                  exact ⟨rfl, hbl⟩
                · have HRX : Hid (qRow m hh (x + 1) Q = some (Q' ++ [T], r ++ [Q'.length])) := by show _ = _; rw [HRS.out, qPut, if_neg hmem, if_neg hfull]
                  have hf2 : ((Q'.length : Int) == 200) = false := by simp; omega
                  have hM7 : Mm w.heap.size w (w5.drewN n6) LB ((.slice a5 T.length c5, 2, i64s T) :: (.slice (some ⟨g8, 0, none⟩) Q'.length c8, 26, rq) :: (.slice (some ⟨g11, 0, none⟩) m.l c11, 26, rs) :: (rowG rq Q' ++ rowG rs S)) := hM6
                  have hrq : rq.length ≤ 1000000 := by omega
                  clear hmem hpl hM6 HRS
                  go_wp2_with (at_builtin; refine Mm.append rfl (.tmp 81) (.tmp 83) 35 rfl hM7 1 rfl Try.underlying35 hi hz0 hz1 hz2 rfl rfl rfl rfl hrq (by omega) ?_)
                  intro g' cap' w8 hM8
                  have HM8 : Hid (Mm w.heap.size w w8 LB (gT (.slice (some ⟨g', 0, none⟩) (Q'.length + 1) cap') (rq ++ [.slice a5 T.length c5]) (Q' ++ [T]) (.slice (some ⟨g11, 0, none⟩) m.l c11) rs S)) := hM8.permG (gT_first HRQ'.out)
                  clear hM7 hM8 hrl'
                  go_wp2_with fail
                  go_roundw
                  case rel => exact ⟨x + 1, _, Q' ++ [T], r ++ [Q'.length], by go_num, by omega, HM8.out, HRX.out, by simp [HRQ'.out]⟩
                  case measure => simp [intOf] <;> omega
            · have hx' : x = m.l := by omega
              subst hx'
              have HBX : Hid (bSt m (leavesB m) g (j + 1) = .ok (Q', N ++ [r])) := by
                show _ = _; rw [HBN2.out, HR.out.1]
              have HM9 := Lib.hid (hM.subG gT_drop)
              have HLN := Lib.hid HB.out.2.2
              have HLQ := Lib.hid hrl'
              clear hq1 hq2 hq3 hq4 hq5 hok1 hB hM hrl'
              go_wp2_with fail
              go_roundw
              case rel => exact ⟨j + 1, rq, Q', N ++ [r], by go_num, by have := HNL.out; have := HLN.out; omega, HM9.out, HBX.out, HLQ.out, by simp [HLN.out]⟩
              case measure => simp [intOf] <;> omega
    · have HR : Hid (secR m (leavesB m) g = .ok (Q, N)) := secR_end hB.1 (by omega) hj
      have HT := Lib.hid (trvR_ok HR.out)
      have hbl := hQ.below
      clear hB hok1 hQ
      go_wp2_with fail
      go_ret2
      rw [HT.out]
      exact ⟨rfl, hbl⟩
end Go.Proofs.Yteagecoiijhflaa

/- DoRelationsHold of both sides. -/
namespace Go.Proofs.Yteagecoiijhflaa
open Go.RowKit
set_option linter.unusedVariables false
set_option linter.unusedSimpArgs false

end Go.Proofs.Yteagecoiijhflaa

/- Slices of slices of numbers among a law's arguments. -/
namespace Go.Proofs.Yteagecoiijhflaa
open Go.ChangeShapes Go.WideShapes Go.ChangeAt Go.RowKit Go.Joins
set_option linter.unusedVariables false
set_option linter.unusedSimpArgs false

section
variable {H : Type} {enc : TypeId × Value → H} {w : World} {base : Nat} {held : Bool}
end
end Go.Proofs.Yteagecoiijhflaa

/- The three closed facts that speak of the whole program, with few signs for the kernel: only the head of the dump's first row is read. -/
namespace Go.Proofs.Yteagecoiijhflaa
open Go

theorem words_app : ∀ (a r : List Char), a.all (· != ' ') = true → wordsSigns (a ++ ' ' :: r) = a :: wordsSigns r
  | [], r, _ => by simp [wordsSigns]
  | c :: a, r, h => by
    simp only [List.all_cons, Bool.and_eq_true, bne_iff_ne, ne_eq] at h
    have ih := words_app a r (by simpa using h.2)
    rw [List.cons_append, wordsSigns, ih]
    exact h.1

theorem list_cut (l p : List Char) (n : Nat) (h : l.take n = p) : l = p ++ l.drop n := by
  rw [← h, List.take_append_drop]

theorem head_words (l t : List Char) (h1 : l.take 77 = "harness".toList ++ ' ' :: (t ++ ' ' :: ("cut".toList ++ [' '])))
    (ht : isSumSigns t = true) (hs : t.all (· != ' ') = true) :
    behindMainWord (wordsSigns l) = "cut".toList :: wordsSigns (l.drop 77) := by
  have e : l = "harness".toList ++ ' ' :: (t ++ ' ' :: ("cut".toList ++ ' ' :: l.drop 77)) := by
    have := list_cut l _ 77 h1
    simpa [List.append_assoc] using this
  have e2 : wordsSigns l = "harness".toList :: t :: "cut".toList :: wordsSigns (l.drop 77) := by
    conv => lhs; rw [e]
    rw [words_app _ _ (by decide), words_app _ _ hs, words_app _ _ (by decide)]
  rw [e2, behindMainWord, ht]
  simp

theorem strip_cut : ∀ (o : List String) (ws : List (List Char)), o.all (fun x => !("cut".toList == x.toList)) = true → stripLifts o ("cut".toList :: ws) = ([], "cut".toList :: ws)
  | [], _, _ => rfl
  | x :: o, ws, h => by
    simp only [List.all_cons, Bool.and_eq_true, Bool.not_eq_true'] at h
    rw [stripLifts, h.1]
    simp only [Bool.false_eq_true, if_false]
    exact strip_cut o ws (by simpa using h.2)

theorem strip_lifts (ws : List (List Char)) : stripLifts liftWords ("cut".toList :: ws) = ([], "cut".toList :: ws) :=
  strip_cut _ _ (by decide +kernel)

theorem lifts_of (P : Program) (ws : List (List Char)) (h : behindMainWord (wordsSigns P.initOrder.toList) = "cut".toList :: ws) :
    P.liftsFinal = false := by
  unfold Program.liftsFinal Program.headLifts
  rw [h, strip_lifts]
  have : ("cut".toList == "carried".toList) = false := by decide +kernel
  simp

theorem make_of (P : Program) (ws : List (List Char)) (h : behindMainWord (wordsSigns P.initOrder.toList) = "cut".toList :: ws) :
    P.make = some .cut := by
  unfold Program.make
  rw [h]
  rfl

theorem enter_of (P : Program) (ws : List (List Char)) (h : behindMainWord (wordsSigns P.initOrder.toList) = "cut".toList :: ws)
    (h1 : P.laysLater = false) (h2 : P.bearsReflect = false) (h3 : P.doorFits [] = true) : P.mayEnter = true := by
  unfold Program.mayEnter
  rw [h]
  simp only [strip_lifts, h1, h2, h3]
  simp

theorem head_cut : behindMainWord (wordsSigns Try.checked.prog.initOrder.toList) = "cut".toList :: wordsSigns (Try.checked.prog.initOrder.toList.drop 77) :=
  head_words _ ((Try.checked.prog.initOrder.toList.drop 8).take 64) (by kernel_rfl) (by kernel_rfl) (by kernel_rfl)

theorem c_lays : Try.checked.prog.laysLater = false := by kernel_rfl
theorem c_refl : Try.checked.prog.bearsReflect = false := by kernel_rfl
theorem c_door : Try.checked.prog.doorFits [] = true := by kernel_rfl

theorem c_enter : Try.checked.prog.mayEnter = true := enter_of _ _ head_cut c_lays c_refl c_door
theorem c_lifts : Try.checked.prog.liftsFinal = false := lifts_of _ _ head_cut
theorem c_make : Try.checked.prog.make = some .cut := make_of _ _ head_cut
end Go.Proofs.Yteagecoiijhflaa

/- Laws whose arguments are a machine and rows of numbers. -/
namespace Go.Proofs.Yteagecoiijhflaa
open Go.ChangeShapes Go.WideShapes Go.ChangeAt Go.RowKit Go.Joins
set_option linter.unusedVariables false
set_option linter.unusedSimpArgs false

section
variable {H : Type} {enc : TypeId × Value → H} {w : World} {base : Nat} {held : Bool}
set_option maxRecDepth 100000 in
theorem row_of_trod {n : Nat} {cs : List Value} {y : DataW H × List MemPlace} (h : DataW.trod enc Try.prog w base (fun _ => true) held n 26 cs = some y) :
    ∃ v xs, cs = [v] ∧ SlI w v xs ∧ xs.length ≤ 9223372036854775807 := by
  rcases open_ints Try.underlying26 Try.underlying2 (by kernel_rfl) h with ⟨rfl, _⟩ | ⟨a, len, cap, zs, rfl, _, hl, hm, hz, _, hc, _⟩
  · exact ⟨_, [], rfl, ⟨none, 0, rfl, fun i hi => by simp at hi⟩, by simp⟩
  · simp only [if_true] at hz
    have hlen : (zs.take len).length = len := by rw [List.length_take]; omega
    refine ⟨_, zs.take len, rfl, ⟨some a, cap, by rw [hlen], fun i hi => ?_⟩, by unfold maxLen at hm; omega⟩
    rw [hlen] at hi
    obtain ⟨b, off, rfl, hcell⟩ := ints_at hc (by omega)
    refine ⟨b, off, rfl, ?_⟩
    rw [hcell i (by omega), List.getElem?_take, if_pos hi, List.getD_eq_getElem?_getD]
set_option maxRecDepth 100000 in
theorem open_row {b0 : Nat} {r : Reach} {v : Value} {d : DataW H} {p : List MemPlace} (hv : Value.okWide Try.prog w r b0 26 v) (h : DataW.Trod enc Try.prog w base (fun _ => true) held 26 v d p) :
    ∃ xs, SlI w v xs ∧ xs.length ≤ 9223372036854775807 := by
  obtain ⟨a0, len, cap, rfl⟩ := Go.WideShapes.okWide_slice Try.underlying26 hv
  obtain ⟨fuel, hf⟩ := h
  simp only [Value.cells] at hf
  obtain ⟨v', xs, e, h1, h2⟩ := row_of_trod hf
  have e' : v' = .slice a0 len cap := by simpa using e.symm
  rw [e'] at h1
  exact ⟨xs, h1, h2⟩
end
set_option maxHeartbeats 1000000 in
theorem markI3_any (B : Nat) (v : Value) (xs : List Int) (k : Nat) (hx : xs.length ≤ 1100000) (hk : k ≤ 1000000) (w : World) (h : OwnI w B v xs) :
    Calls Try.prog 21 #[v, .int .i64 (k : Int)] w fun e w' => e = .returned (.int .i64 ((k + xs.length : Nat) : Int)) ∧ w.grownBy w' v.ownBlock ∧ OwnI w' B v (marks k xs.length) := by
  obtain ⟨a, c, rfl, -⟩ := h.form
  have H0 : Hid (OwnI w B (.slice a xs.length c) (mixM k 0 xs)) := by
    show OwnI _ _ _ _
    simpa [mixM, marks] using h
  clear h
  go_enter Try.func21, Try.ntmps21
  go_wp2
  go_loopw [1, 5] (fun u i wr => ∃ j : Nat, j ≤ xs.length ∧ i = .int .i64 j ∧ u = .int .i64 ((k + j : Nat) : Int) ∧ Hid (w.grownBy wr (Value.slice a xs.length c).ownBlock) ∧ Hid (OwnI wr B (.slice a xs.length c) (mixM k j xs))) (fun _ i _ => xs.length - (intOf i).toNat)
  case atStart => exact ⟨0, Nat.zero_le _, rfl, rfl, ⟨rfl, rfl, rfl, Nat.le_refl _, fun _ _ _ => rfl⟩, H0⟩
  case round =>
    clear H0
    obtain ⟨j, hj, rfl, rfl, HG, HO⟩ := hrel
    by_cases hlt : j < xs.length
    · have hO := HO.out
      have hlen := mixM_length k j xs hj
      obtain ⟨g, rfl, hgB⟩ : ∃ g, a = some ⟨g, 0, none⟩ ∧ B ≤ g := by
        rcases hO.2 with ⟨_, e⟩ | ⟨g, cap, cur, hv, h1, rest⟩
        · omega
        · simp at hv; exact ⟨g, hv.1, h1⟩
      have hO' : wr.ownsRow B 2 1 (.slice (some ⟨g, 0, none⟩) xs.length c) xs.length (i64s (mixM k j xs)) := by
        have := hO; rw [OwnI, hlen] at this; exact this
      have hcell := hO'.cellAt j (by omega)
      rw [i64s_get (by omega)] at hcell
      have hfz := hO'.frozenAt j
      have hset : Hid (OwnI (wr.setCell ⟨g, j, none⟩ (.int .i64 ((k + j : Nat) : Int))) B (.slice (some ⟨g, 0, none⟩) xs.length c) (mixM k (j + 1) xs)) := by
        have := (hO'.stored j (.int .i64 ((k + j : Nat) : Int))).1
        rw [mixM_succ k j xs hlt] at this
        show World.ownsRow _ _ _ _ _ _ _
        rw [mixM_length k (j + 1) xs hlt]
        exact this
      have HG2 : Hid (w.grownBy (wr.setCell ⟨g, j, none⟩ (.int .i64 ((k + j : Nat) : Int))) (Value.slice (some ⟨g, 0, none⟩) xs.length c).ownBlock) := by
        have hg := HG.out
        refine ⟨hg.os, hg.tape, hg.output, by have := hg.size; simpa [World.setCell] using this, fun b hb hne => ?_⟩
        have : b ≠ g := fun e => hne (by rw [e]; rfl)
        exact (heap_setCell_other wr ⟨g, j, none⟩ b _ this).trans (hg.block b hb hne)
      have i1 : (0 : Int) ≤ (j : Int) := by omega
      have i2 : (j : Int) < (xs.length : Int) := by omega
      obtain ⟨z, hz⟩ : ∃ z, (mixM k j xs)[j]?.getD 0 = z := ⟨_, rfl⟩
      rw [hz] at hcell
      clear hz hO hO' hlen
      go_wp2
      go_roundw
      case rel => exact ⟨j + 1, by omega, by go_num, by go_num, HG2, hset⟩
      case measure => simp [intOf]; omega
    · have hj' : j = xs.length := by omega
      subst hj'
      rw [mixM_all] at HO
      go_wp2
      go_ret
      exact ⟨rfl, HG.out, HO.out⟩

end Go.Proofs.Yteagecoiijhflaa

/- The minimal table: the least states of the classes, their ranks. -/
namespace Go.Proofs.Yteagecoiijhflaa
set_option linter.unusedVariables false
set_option linter.unusedSimpArgs false

section
variable (t : Tbl)
variable {t}
end
end Go.Proofs.Yteagecoiijhflaa

/- The minimal machine. -/
namespace Go.Proofs.Yteagecoiijhflaa
set_option linter.unusedVariables false
set_option linter.unusedSimpArgs false

/-- 16 rows of 3 numbers: n rows of d numbers are given, the rest are 0 -/
def grid (n d : Nat) (f : Nat → Nat → Nat) : List Int := (List.range 48).map fun j => if j / 3 < n ∧ j % 3 < d then (f (j / 3) (j % 3) : Int) else 0
theorem grid_len (n d : Nat) (f : Nat → Nat → Nat) : (grid n d f).length = 48 := by simp [grid]
theorem grid_bound {n d b : Nat} {f : Nat → Nat → Nat} (hf : ∀ q x, q < n → x < d → f q x ≤ b) (i : Nat) : 0 ≤ (grid n d f)[i]?.getD 0 ∧ (grid n d f)[i]?.getD 0 ≤ (b : Int) := by
  by_cases h : i < 48
  · simp only [grid, List.getElem?_map, List.getElem?_range h, Option.map_some, Option.getD_some]
    split
    · rename_i hc
      have := hf _ _ hc.1 hc.2
      omega
    · omega
  · rw [List.getElem?_eq_none (by rw [grid_len]; omega)]
    simp only [Option.getD_none]; omega
end Go.Proofs.Yteagecoiijhflaa
