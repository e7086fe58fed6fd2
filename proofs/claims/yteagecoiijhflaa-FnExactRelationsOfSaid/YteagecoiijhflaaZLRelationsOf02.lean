import Derived.Test.YteagecoiijhflaaZLRelationsOf01
import Derived.Test.YteagecoiijhflaaZLOrderOf14
import Derived.Test.YteagecoiijhflaaZLOrderOf16
/- The generators of the reference. -/
namespace Go.Proofs.Yteagecoiijhflaa
open Go.RowKit
set_option linter.unusedVariables false
set_option linter.unusedSimpArgs false

/-- the generators of the first states, or the error -/
def genR (m : Mch) : Nat → Except Int (List Int)
  | 0 => .ok []
  | i + 1 => match genR m i with
    | .error c => .error c
    | .ok xs => if trivB m i = true ∨ m.tbl.fin i ≠ i then .ok xs else
      if (trvR m [(i : Int) + 1, (i : Int) + 1]).2 ≠ 0 then .error (trvR m [(i : Int) + 1, (i : Int) + 1]).2 else
      .ok (xs ++ [(i : Int) + 1] ++ if (trvR m [(i : Int) + 1, (i : Int) + 1]).1 = true then [] else [-((i : Int) + 1)])
def genI (m : Mch) : List Int × Int := match genR m m.s with
  | .error c => ([], c)
  | .ok xs => (xs, 0)
theorem genR_len (m : Mch) : ∀ (i : Nat) (xs : List Int), genR m i = .ok xs → xs.length ≤ 2 * i
  | 0, xs, h => by simp only [genR] at h; injection h with h; subst h; simp
  | i + 1, xs, h => by
    simp only [genR] at h
    split at h
    · cases h
    · rename_i ys hy
      have := genR_len m i ys hy
      split at h
      · injection h with h; subst h; omega
      · split at h
        · cases h
        · injection h with h; subst h
          split <;> simp <;> omega
theorem genR_mem (m : Mch) : ∀ (i : Nat) (xs : List Int), genR m i = .ok xs → ∀ k ∈ xs, k ≠ 0 ∧ -(i : Int) ≤ k ∧ k ≤ i
  | 0, xs, h => by simp only [genR] at h; injection h with h; subst h; simp
  | i + 1, xs, h => by
    simp only [genR] at h
    split at h
    · cases h
    · rename_i ys hy
      have := genR_mem m i ys hy
      split at h
      · injection h with h; subst h
        intro k hk; have := this k hk; omega
      · split at h
        · cases h
        · injection h with h; subst h
          intro k hk
          simp only [List.mem_append, List.mem_singleton] at hk
          rcases hk with (hk | rfl) | hk
          · have := this k hk; omega
          · omega
          · split at hk
            · cases hk
            · simp only [List.mem_singleton] at hk; subst hk; omega
theorem genR_err {m : Mch} {c : Int} {i : Nat} (h : genR m i = .error c) : ∀ j, i ≤ j → genR m j = .error c
  | 0, hj => by obtain rfl : i = 0 := by omega
                exact h
  | j + 1, hj => by
    by_cases e : i = j + 1
    · subst e; exact h
    · rw [genR, genR_err h j (by omega)]
theorem genR_skip {m : Mch} {i : Nat} {xs : List Int} (h : genR m i = .ok xs) (hc : trivB m i = true ∨ m.tbl.fin i ≠ i) : genR m (i + 1) = .ok xs := by
  rw [genR, h]; simp only; rw [if_pos hc]
theorem genR_bad {m : Mch} {i : Nat} {xs : List Int} (h : genR m i = .ok xs) (h1 : trivB m i = false) (h2 : m.tbl.fin i = i) (hc : (trvR m [(i : Int) + 1, (i : Int) + 1]).2 ≠ 0) : genR m (i + 1) = .error (trvR m [(i : Int) + 1, (i : Int) + 1]).2 := by
  rw [genR, h]; simp only; rw [if_neg (by rw [h1, h2]; simp), if_pos hc]
theorem genR_ok {m : Mch} {i : Nat} {xs : List Int} (h : genR m i = .ok xs) (h1 : trivB m i = false) (h2 : m.tbl.fin i = i) (hc : (trvR m [(i : Int) + 1, (i : Int) + 1]).2 = 0) :
    genR m (i + 1) = .ok (xs ++ [(i : Int) + 1] ++ if (trvR m [(i : Int) + 1, (i : Int) + 1]).1 = true then [] else [-((i : Int) + 1)]) := by
  rw [genR, h]; simp only; rw [if_neg (by rw [h1, h2]; simp), if_neg (by simpa using hc)]
theorem genI_len (m : Mch) (hs : m.s ≤ 16) : (genI m).1.length ≤ 32 := by
  unfold genI
  split
  · simp
  · rename_i xs hx; have := genR_len m _ _ hx; show xs.length ≤ 32; omega
theorem genI_gw (m : Mch) : GW m (genI m).1 := by
  unfold genI
  split
  · intro k hk; cases hk
  · rename_i xs hx; exact genR_mem m _ _ hx
theorem gw_two {m : Mch} {i : Nat} (h : i < m.s) : GW m [(i : Int) + 1, (i : Int) + 1] := fun k hk => by
  simp only [List.mem_cons, List.not_mem_nil, or_false, or_self] at hk
  subst hk; omega
theorem ints_two (w : World) (x y : Int) : IntsAt (w.alloc (.cells #[.int .i64 x, .int .i64 y] 2)) (some ⟨w.heap.size, 0, none⟩) [x, y] := fun i hi => by
  have hb := Blk.new w #[.int .i64 x, .int .i64 y] 2
  match i, hi with
  | 0, _ => exact ⟨w.heap.size, 0, rfl, hb.cell' (i := 0) rfl⟩
  | 1, _ => exact ⟨w.heap.size, 0, rfl, hb.cell' (i := 1) rfl⟩

theorem act5 (A : Act) (i1 i2 i3 i4 i5 : Nat) : A = { tmps := ((((A.tmps.setIfInBounds i1 (A.tmps.getD i1 undef)).setIfInBounds i2 (A.tmps.getD i2 undef)).setIfInBounds i3 (A.tmps.getD i3 undef)).setIfInBounds i4 (A.tmps.getD i4 undef)).setIfInBounds i5 (A.tmps.getD i5 undef), defers := A.defers } := by
  simp only [set_self]
/-- the region that takes the classes and the trivial states: which of its operations are done, which may come -/
def stG (f1 f3 f4 f5 f6 f7 f8 : Bool) : Bool := (!f3 || f1) && (!f7 || (f3 && f5 && f6)) && (!f8 || f7)
def prG (f1 f3 f4 f5 f6 f7 f8 : Bool) (i : Nat) : Bool :=
  (i == 1 && !f1) || (i == 3 && f1 && !f3) || (i == 4 && !f4) || (i == 5 && !f5) || (i == 6 && !f6) || (i == 7 && f3 && f5 && f6 && !f7) || (i == 8 && f7 && !f8)
def gG (f4 : Bool) (x : Value) : List (Value × TypeId × List Value) := if f4 = true then [(x, 2, [])] else []
def z16a : List Value := [.int .i64 0, .int .i64 0, .int .i64 0, .int .i64 0, .int .i64 0, .int .i64 0, .int .i64 0, .int .i64 0, .int .i64 0, .int .i64 0, .int .i64 0, .int .i64 0, .int .i64 0, .int .i64 0, .int .i64 0, .int .i64 0]
def z16b : List Value := [.bool false, .bool false, .bool false, .bool false, .bool false, .bool false, .bool false, .bool false, .bool false, .bool false, .bool false, .bool false, .bool false, .bool false, .bool false, .bool false]
theorem info64 : (Try.prog.info? 64).map (·.size) = some 16 := by kernel_rfl
theorem info65 : (Try.prog.info? 65).map (·.size) = some 16 := by kernel_rfl
theorem bls_one (f : Nat → Bool) : ∀ v ∈ bls f, v.oneCell' = true := fun v hv => by simp only [bls, List.mem_map] at hv; obtain ⟨z, _, rfl⟩ := hv; rfl
theorem bls_len (f : Nat → Bool) : (bls f).length = 16 := by simp [bls]

set_option maxRecDepth 100000 in
set_option maxHeartbeats 4000000 in
theorem l10Generators_any (m : Mch) (hwf : m.Wf) (hok : m.Ok) (w : World) :
    Calls Try.prog 65 #[.agg m.cells.toArray] w (RetI (genI m).1 (genI m).2 w) := by
  obtain ⟨i0, hi0, hz0, hz1, hz2⟩ := info_parts Try.info2
  have hs16 := hok.s_le
  have hM0 := (Mm.start w).alloc m.cells.toArray 29
  have HMX := Lib.hid (show Try.prog.follows .mixedOrders = true by kernel_rfl)
  have HIM := Lib.hid (mach_info hwf)
  have HOK := Lib.hid hok
  have HD : Hid (genI m = match genR m m.s with
    | .error c => ([], c)
    | .ok xs => (xs, 0)) := rfl
  go_enter Try.func65, Try.ntmps65
  go_wp2_with fail
  obtain ⟨Lo, hLo⟩ : ∃ Lo, Lo = [(w.heap.size, m.cells, 29)] := ⟨_, rfl⟩
  have HLO := Lib.hid hLo
  have hM0 : Mm w.heap.size w (w.alloc (.cells m.cells.toArray 29)).drew [(w.heap.size, m.cells, 29)] [] := hM0.drew
  rw [← hLo] at hM0
  have HPB : Hid (∀ W G (f5 f6 : Bool) x5 x6, Mm w.heap.size w W (ext f6 x6 (ext f5 x5 Lo)) G → MAt W w.heap.size 0 m) := fun W G f5 f6 x5 x6 h => (h.blk (w.heap.size, m.cells, 29) (ext_mem (ext_mem (by rw [HLO.out]; simp)))).2.all
  refine region_S (fun W => MAt W w.heap.size 0 m) [] 10 rfl HMX.out (HPB.out _ _ false false (0, [], 0) (0, [], 0) hM0) (fun hU => ?_)
  obtain ⟨W, hW⟩ : ∃ W, W = (w.alloc (.cells m.cells.toArray 29)).drew := ⟨_, rfl⟩
  rw [← hW] at hU hM0 ⊢
  clear hW hLo
  (refine AnyS.takeS (i := 0) rfl (by kernel_rfl) (by kernel_rfl) (by kernel_rfl) (by rfl) (by kernel_rfl) (by kernel_rfl) (fun _ _ _ h => h) (by rfl) (fun W hW => run_ld Try.underlying29 rfl HIM.out (.tmp 1) rfl rfl hW) hU (fun hU => ?_); (try simp only [Act.put, List.setIfInBounds_toArray, List.set_cons_zero, List.set_cons_succ]))
  (refine AnyS.takeS (i := 2) rfl (by kernel_rfl) (by kernel_rfl) (by kernel_rfl) (by rfl) (by kernel_rfl) (by kernel_rfl) (fun _ _ _ h => h) (by rfl) (fun W hW => run_ld Try.underlying29 rfl HIM.out (.tmp 1) rfl rfl hW) hU (fun hU => ?_); (try simp only [Act.put, List.setIfInBounds_toArray, List.set_cons_zero, List.set_cons_succ]))
  have HCL : Hid (∀ i, i < m.s → (fun q => if q < m.s then m.tbl.fin q else 0) i = m.tbl.fin i) := fun i hi => if_pos hi
  have HCA := Lib.hid (l01Classes_any m hwf hok)
  have HTA := Lib.hid (l01Trivial_any m hwf hok)
  generalize (fun q => if q < m.s then m.tbl.fin q else 0) = cl at *
  have H64 : Hid ((Try.prog.info? 64).map (·.size) = some (nvs 16 cl).length) := by show _ = _; rw [nvs_len]; exact info64
  have H65 : Hid ((Try.prog.info? 65).map (·.size) = some (bls (trivB m)).length) := by show _ = _; rw [bls_len]; exact info65
  refine AnyS.invA _ (fun A l ac W => ∃ (f1 f3 f4 f5 f6 f7 f8 : Bool) (x11 x13 x14 x4 x5 : Value) (b5 b6 : Nat), l = #[true, f1, true, f3, f4, f5, f6, f7, f8, false] ∧
    ac = { tmps := ((((A.tmps.setIfInBounds 11 x11).setIfInBounds 13 x13).setIfInBounds 14 x14).setIfInBounds 4 x4).setIfInBounds 5 x5, defers := A.defers } ∧
    stG f1 f3 f4 f5 f6 f7 f8 = true ∧ (f1 = true → x11 = .agg (nvs 16 cl).toArray) ∧ (f3 = true → x13 = .agg (bls (trivB m)).toArray) ∧ (f5 = true → x4 = .pointer (some ⟨b5, 0, none⟩)) ∧ (f6 = true → x5 = .pointer (some ⟨b6, 0, none⟩)) ∧
    Mm w.heap.size w W (ext f6 (b6, if f8 = true then bls (trivB m) else z16b, 65) (ext f5 (b5, if f7 = true then nvs 16 cl else z16a, 64) Lo)) (gG f4 x14)) (fun l a W h => by
      obtain ⟨_, _, _, _, _, _, _, _, _, _, _, _, _, _, _, _, _, _, _, _, _, h⟩ := h
      exact HPB.out _ _ _ _ _ _ h) ?_ _ _ _ ⟨false, false, false, false, false, false, false, _, _, _, _, _, 0, 0, rfl, act5 _ 11 13 14 4 5, rfl, (fun h => by cases h), (fun h => by cases h), (fun h => by cases h), (fun h => by cases h), hM0⟩ (Nat.le_of_eq (by kernel_rfl))
  clear hU hM0
  rintro l ac W ⟨f1, f3, f4, f5, f6, f7, f8, x11, x13, x14, x4, x5, b5, b6, rfl, rfl, hst, h11, h13, h4, h5, hM⟩
  (try simp only [List.setIfInBounds_toArray, List.set_cons_zero, List.set_cons_succ])
  by_cases hall : (f8 && f4) = true
  case neg =>
    --<
    right
    refine ⟨?_, ?_⟩
    · clear h11 h13 h4 h5 hM
      cases f1 <;> cases f3 <;> cases f4 <;> cases f5 <;> cases f6 <;> cases f7 <;> cases f8 <;> first | (exact absurd hst (by decide)) | (exact absurd rfl hall) | exact ready_ne (by kernel_rfl)
    · intro q hq
      have hmem : prG f1 f3 f4 f5 f6 f7 f8 q = true := by
        clear h11 h13 h4 h5 hM
        cases f1 <;> cases f3 <;> cases f4 <;> cases f5 <;> cases f6 <;> cases f7 <;> cases f8 <;> first | (exact absurd hst (by decide)) | (exact absurd rfl hall) | exact all_mem (p := prG _ _ _ _ _ _ _) hq (by kernel_rfl)
      clear hq hall
      simp only [prG, Bool.or_eq_true, Bool.and_eq_true, beq_iff_eq, Bool.not_eq_true'] at hmem
      have HM := Lib.hid hM
      have H11 := Lib.hid h11
      have H13 := Lib.hid h13
      have H4 := Lib.hid h4
      have H5 := Lib.hid h5
      have HST := Lib.hid hst
      clear hM h11 h13 h4 h5 hst
      rcases hmem with (((((⟨rfl, rfl⟩ | ⟨⟨rfl, rfl⟩, rfl⟩) | ⟨rfl, rfl⟩) | ⟨rfl, rfl⟩) | ⟨rfl, rfl⟩) | ⟨⟨⟨⟨rfl, rfl⟩, rfl⟩, rfl⟩, rfl⟩) | ⟨⟨rfl, rfl⟩, rfl⟩
      · obtain ⟨rfl, rfl, rfl⟩ : f3 = false ∧ f7 = false ∧ f8 = false := by have := HST.out; revert this; cases f3 <;> cases f7 <;> cases f8 <;> simp [stG]
        refine wpOp_step rfl (fun K hK => ?_)
        have HK := Lib.hid hK
        clear hK
        go_simp
        refine (HCA.out _).mono ?_
        rintro e W' ⟨rfl, hb⟩
        (try simp only [Act.put, List.setIfInBounds_toArray, List.set_cons_zero, List.set_cons_succ])
        exact HK.out _ _ ⟨true, false, f4, f5, f6, false, false, _, x13, x14, x4, x5, b5, b6, rfl, rfl, rfl, (fun _ => rfl), (fun h => by cases h), H4.out, H5.out, HM.out.call hb⟩
      · obtain ⟨rfl, rfl⟩ : f7 = false ∧ f8 = false := by have := HST.out; revert this; cases f7 <;> cases f8 <;> simp [stG]
        refine wpOp_step rfl (fun K hK => ?_)
        have HK := Lib.hid hK
        clear hK
        go_simp
        refine (HTA.out _).mono ?_
        rintro e W' ⟨rfl, hb⟩
        (try simp only [Act.put, List.setIfInBounds_toArray, List.set_cons_zero, List.set_cons_succ])
        exact HK.out _ _ ⟨true, true, f4, f5, f6, false, false, x11, _, x14, x4, x5, b5, b6, rfl, rfl, rfl, H11.out, (fun _ => rfl), H4.out, H5.out, HM.out.call hb⟩
      · refine wpOp_step rfl (fun K hK => ?_)
        have HK := Lib.hid hK
        clear hK
        go_simp
        exact HK.out _ _ ⟨f1, f3, true, f5, f6, f7, f8, x11, x13, _, x4, x5, b5, b6, rfl, rfl, HST.out, H11.out, H13.out, H4.out, H5.out, HM.out.newOwn #[] 2 0 rfl (by omega)⟩
      · obtain ⟨rfl, rfl⟩ : f7 = false ∧ f8 = false := by have := HST.out; revert this; cases f7 <;> cases f8 <;> simp [stG]
        refine wpOp_step rfl (fun K hK => ?_)
        have HK := Lib.hid hK
        clear hK
        go_simp
        exact HK.out _ _ ⟨f1, f3, f4, true, f6, false, false, x11, x13, x14, _, x5, W.heap.size, b6, rfl, rfl, by have := HST.out; revert this; cases f1 <;> cases f3 <;> simp [stG], H11.out, H13.out, (fun _ => rfl), H5.out, (HM.out.alloc z16a.toArray 64).permL (ext_swap f6 _ _ _)⟩
      · obtain ⟨rfl, rfl⟩ : f7 = false ∧ f8 = false := by have := HST.out; revert this; cases f7 <;> cases f8 <;> simp [stG]
        refine wpOp_step rfl (fun K hK => ?_)
        have HK := Lib.hid hK
        clear hK
        go_simp
        exact HK.out _ _ ⟨f1, f3, f4, f5, true, false, false, x11, x13, x14, x4, _, b5, W.heap.size, rfl, rfl, by have := HST.out; revert this; cases f1 <;> cases f3 <;> simp [stG], H11.out, H13.out, H4.out, (fun _ => rfl), HM.out.alloc z16b.toArray 65⟩
      · obtain ⟨rfl, rfl⟩ : f1 = true ∧ f8 = false := by have := HST.out; revert this; cases f1 <;> cases f8 <;> simp [stG]
        obtain rfl := H11.out rfl
        obtain rfl := H4.out rfl
        refine wpOp_step rfl (fun K hK => ?_)
        have HK := Lib.hid hK
        clear hK
        have hM := HM.out
        have ht := (hM.at 1 rfl).there 0 (nvs 16 cl).length (by simp [nvs_len, z16a])
        have hM2 := hM.setAll 1 rfl (vs := nvs 16 cl) (by simp [nvs_len, z16a])
        have HM2 := Lib.hid hM2
        clear hM hM2
        refine ite_of (by kernel_rfl) ?_
        refine wp_st 64 (.tmp 4) (.tmp 11) rfl b5 0 (nvs 16 cl) rfl rfl ht H64.out (nvs_one 16 cl) ?_
        (try simp only [Act.put, List.setIfInBounds_toArray, List.set_cons_zero, List.set_cons_succ])
        exact HK.out _ _ ⟨true, true, f4, true, true, true, false, _, x13, x14, _, x5, b5, b6, rfl, rfl, rfl, (fun _ => rfl), H13.out, (fun _ => rfl), H5.out, HM2.out⟩
      · obtain ⟨rfl, rfl, rfl, rfl⟩ : f1 = true ∧ f3 = true ∧ f5 = true ∧ f6 = true := by have := HST.out; revert this; cases f1 <;> cases f3 <;> cases f5 <;> cases f6 <;> simp [stG]
        obtain rfl := H13.out rfl
        obtain rfl := H5.out rfl
        refine wpOp_step rfl (fun K hK => ?_)
        have HK := Lib.hid hK
        clear hK
        have hM := HM.out
        have ht := (hM.at 0 rfl).there 0 (bls (trivB m)).length (by simp [bls_len, z16b])
        have hM2 := hM.setAll 0 rfl (vs := bls (trivB m)) (by simp [bls_len, z16b])
        have HM2 := Lib.hid hM2
        clear hM hM2
        refine ite_of (by kernel_rfl) ?_
        refine wp_st 65 (.tmp 5) (.tmp 13) rfl b6 0 (bls (trivB m)) rfl rfl ht H65.out (bls_one _) ?_
        (try simp only [Act.put, List.setIfInBounds_toArray, List.set_cons_zero, List.set_cons_succ])
        exact HK.out _ _ ⟨true, true, f4, true, true, true, true, x11, _, x14, x4, _, b5, b6, rfl, rfl, rfl, H11.out, (fun _ => rfl), H4.out, (fun _ => rfl), HM2.out⟩
    -->
  simp only [Bool.and_eq_true] at hall
  obtain ⟨rfl, rfl⟩ := hall
  obtain ⟨rfl, rfl, rfl, rfl, rfl⟩ : f1 = true ∧ f3 = true ∧ f5 = true ∧ f6 = true ∧ f7 = true := by revert hst; cases f1 <;> cases f3 <;> cases f5 <;> cases f6 <;> cases f7 <;> simp [stG]
  obtain rfl := h4 rfl
  obtain rfl := h5 rfl
  clear hst h11 h13 h4 h5
  left
  intro n' hn'
  obtain ⟨n', rfl⟩ : ∃ n2, n' = n2 + 1 := ⟨n' - 1, by have h3 : leftN 10 #[true, true, true, true, true, true, true, true, true, false] = 1 := (by kernel_rfl); have h4 : leftN 10 #[true, true, true, true, true, true, true, true, true, false] ≤ n' := hn'; omega⟩
  clear hn'
  have hM1 : Mm w.heap.size w W [(b6, bls (trivB m), 65), (b5, nvs 16 cl, 64), (w.heap.size, m.cells, 29)] [(x14, 2, [])] := by
    rw [HLO.out] at hM; exact hM
  have hU : Upto (fun W => MAt W w.heap.size 0 m) [] #[true, true, true, true, true, true, true, true, true, false] W := .inl (hM1.mach 2 rfl)
  have HM1 := Lib.hid hM1
  clear hM hM1
  (refine AnyS.take (i := 9) rfl (by kernel_rfl) (by kernel_rfl) (by kernel_rfl) (by rfl) (fun _ _ _ h => h) (by rfl) (by intro w; go_simp; with_reducible rfl) hU (fun hU => ?_); (try simp only [Act.put, List.setIfInBounds_toArray, List.set_cons_zero, List.set_cons_succ]))
  refine AnyS.done (by kernel_rfl) ?_ _
  clear hU
  clear HCA HTA H64 H65 HPB HLO HMX HIM
  go_wp2_with fail
  go_loopw [6, 7] (fun o q wr => ∃ (i : Nat) (xs : List Int), i ≤ m.s ∧ q = .int .i64 (i : Int) ∧ Hid (genR m i = .ok xs) ∧ Mm w.heap.size w wr [(b6, bls (trivB m), 65), (b5, nvs 16 cl, 64), (w.heap.size, m.cells, 29)] [(o, 2, i64s xs)]) (fun _ q _ => 17 - (intOf q).toNat)
  case atStart => exact ⟨0, [], Nat.zero_le _, rfl, rfl, HM1.out⟩
  case round =>
    clear HM1
    obtain ⟨i, xs, hi, rfl, HX, hM⟩ := hrel
    have hm := hM.mach 2 rfl
    have cs := hm.s
    rw [HOK.out.S_eq] at cs
    have hxl := genR_len m i xs HX.out
    have ei : IntKind.i64.wrap ((i : Int) + 1) = (i : Int) + 1 := IntWalk.i64_in _ (by omega)
    have i0' : (0 : Int) ≤ (i : Int) := by omega
    by_cases hlt : i < m.s
    · have j1 : (i : Int) < (m.s : Int) := by omega
      have i16 : (i : Int) < 16 := by omega
      have c6 := (hM.at 0 rfl).cell' (bls_get (trivB m) (q := i) (by omega))
      have c5 := (hM.at 1 rfl).cell' (nvs_get cl (q := i) (by omega))
      rw [HCL.out i hlt] at c5
      have HSK := Lib.hid (genR_skip HX.out)
      have HBD := Lib.hid (genR_bad HX.out)
      have HGO := Lib.hid (genR_ok HX.out)
      cases hb : trivB m i with
      | true =>
        rw [hb] at c6
        have HX2 := Lib.hid (HSK.out (.inl hb))
        clear HSK HBD HGO hb c5
        have HM := Lib.hid hM
        clear hM hm
        go_wp2_with fail
        go_roundw
        case rel => exact ⟨i + 1, xs, by omega, by go_num, HX2.out, HM.out⟩
        case measure => simp [intOf, ei] <;> omega
      | false =>
        rw [hb] at c6
        by_cases hf : m.tbl.fin i = i
        · rw [hf] at c5
          have j3 : ((i : Int) != (i : Int)) = false := by simp
          have HBD := Lib.hid (HBD.out hb hf)
          have HGO := Lib.hid (HGO.out hb hf)
          clear HSK hb hf
          have HGT := Lib.hid (fun w => l02Trivial_any m hwf HOK.out (some ⟨w.heap.size, 0, none⟩) [(i : Int) + 1, (i : Int) + 1] 2 (gw_two hlt) (by simp) _ (ints_two w _ _))
          have hxi : (i64s xs).length ≤ 1000000 := by simp only [i64s, List.length_map]; omega
          generalize trvR m [(i : Int) + 1, (i : Int) + 1] = R at *
          clear hm
          go_wp2_with (at_builtin; refine Mm.append rfl (.tmp 31) (.tmp 34) 26 rfl hM 0 rfl Try.underlying26 hi0 hz0 hz1 hz2 rfl rfl rfl rfl hxi (by omega) ?_)
          intro g6 c6 w6 hM6
          (try simp only [List.set_cons_zero] at hM6)
          have hm6 := hM6.mach 2 rfl
          have hba : Below w6.heap.size w6 (w6.alloc (.cells #[.int .i64 ((i : Int) + 1), .int .i64 ((i : Int) + 1)] 2)) := (Below.refl _ _).alloc (Nat.le_refl _) _
          have hM7 := hM6.call hba
          clear hM hba hM6
          go_wp2_with ((with_reducible refine ld_mach ?_ (.tmp 1) ?_ (w.heap.size) (0) ?_ m hm6 hwf ?_); exact rfl; exact rfl; exact rfl)
          refine (HGT.out _).mono ?_
          rintro e w7 ⟨rfl, hb7⟩
          have hM8 := hM7.call hb7
          clear hM7 hb7 HGT hm6
          obtain ⟨R1, R2⟩ := R
          simp only at HBD HGO
          by_cases hc : R2 = 0
          · have HX2 := Lib.hid (HGO.out hc)
            subst hc
            have HX2' : Hid (genR m (i + 1) = .ok (xs ++ [(i : Int) + 1] ++ if R1 = true then [] else [-((i : Int) + 1)])) := HX2.out
            clear HX2 HBD HGO
            cases R1 with
            | true =>
              have HX3 : Hid (genR m (i + 1) = .ok (xs ++ [(i : Int) + 1])) := by show _ = _; rw [HX2'.out]; simp
              have HM : Hid (Mm w.heap.size w w7 [(b6, bls (trivB m), 65), (b5, nvs 16 cl, 64), (w.heap.size, m.cells, 29)] [(.slice (some ⟨g6, 0, none⟩) ((i64s xs).length + 1) c6, 2, i64s (xs ++ [(i : Int) + 1]))]) := by
                show Mm _ _ _ _ _; simpa [i64s] using hM8
              clear hM8 HX2'
              go_wp2_with fail
              go_roundw
              case rel => exact ⟨i + 1, _, by omega, by go_num, HX3.out, HM.out⟩
              case measure => simp [intOf, ei] <;> omega
            | false =>
              have HX3 : Hid (genR m (i + 1) = .ok (xs ++ [(i : Int) + 1] ++ [-((i : Int) + 1)])) := by show _ = _; rw [HX2'.out]; simp
              have en : IntKind.i64.wrap (-((i : Int) + 1)) = -((i : Int) + 1) := IntWalk.i64_in _ (by omega)
              have hxi2 : (i64s xs ++ [Value.int .i64 ((i : Int) + 1)]).length ≤ 1000000 := by simp only [i64s, List.length_append, List.length_map]; simp; omega
              have HEN := Lib.hid en
              clear HX2' en
              go_wp2_with (at_builtin; refine Mm.append rfl (.tmp 51) (.tmp 55) 26 rfl hM8 0 rfl Try.underlying26 hi0 hz0 hz1 hz2 rfl rfl rfl rfl hxi2 (by omega) ?_)
              intro g9 c9 w9 hM9
              have HM : Hid (Mm w.heap.size w w9 [(b6, bls (trivB m), 65), (b5, nvs 16 cl, 64), (w.heap.size, m.cells, 29)] [(.slice (some ⟨g9, 0, none⟩) ((i64s xs).length + 1 + 1) c9, 2, i64s (xs ++ [(i : Int) + 1] ++ [-((i : Int) + 1)]))]) := by
                show Mm _ _ _ _ _
                have hM9 := hM9
                (try rw [HEN.out] at hM9)
                simpa [i64s] using hM9
              clear hM8 hM9
              go_wp2_with fail
              go_roundw
              case rel => exact ⟨i + 1, _, by omega, by go_num, HX3.out, HM.out⟩
              case measure => simp [intOf, ei] <;> omega
          · have HX2 : Hid (genI m = ([], R2)) := by show _ = _; rw [HD.out, genR_err (HBD.out hc) m.s (by omega)]
            have j4 : (R2 != 0) = true := by simpa using hc
            have hb := hM8.below
            clear HBD HGO hM8 hc
            go_wp2_with fail
            go_ret2
            rw [HX2.out]
            exact ⟨_, rfl, hb, OwnI.nil _ _⟩
        · have j3 : ((m.tbl.fin i : Int) != (i : Int)) = true := by simp; omega
          have HX2 := Lib.hid (HSK.out (.inr hf))
          have HM := Lib.hid hM
          generalize m.tbl.fin i = fi at *
          clear HSK HBD HGO hb hf hM hm
          go_wp2_with fail
          go_roundw
          case rel => exact ⟨i + 1, xs, by omega, by go_num, HX2.out, HM.out⟩
          case measure => simp [intOf, ei] <;> omega
    · have hi' : i = m.s := by omega
      subst hi'
      have HX2 : Hid (genI m = (xs, 0)) := by show _ = _; rw [HD.out, HX.out]
      have HO := Lib.hid (OwnI.of_row (hM.own _ (List.mem_cons_self ..)))
      have hb := hM.below
      have j1 : ¬ ((m.s : Int) < (m.s : Int)) := by omega
      clear hM hm
      go_wp2_with fail
      go_ret2
      rw [HX2.out]
      exact ⟨_, rfl, hb, HO.out⟩
end Go.Proofs.Yteagecoiijhflaa

/- The generators of the program; GeneratorsOf of both sides. -/
namespace Go.Proofs.Yteagecoiijhflaa
open Go.RowKit
set_option linter.unusedVariables false
set_option linter.unusedSimpArgs false

def genL (m : Mch) : List Int × Int := if machP m = true then genI m else ([], 1)

set_option maxRecDepth 100000 in
set_option maxHeartbeats 2000000 in
theorem specGeneratorsOf_any (m : Mch) (hwf : m.Wf) (w : World) :
    Calls Try.prog 28 #[.agg m.cells.toArray] w (RetI (genL m).1 (genL m).2 w) := by
  have hM0 := (Mm.start w).alloc m.cells.toArray 29
  have hm := hM0.mach 0 rfl
  have HIS := Lib.hid (l01Is_any m hwf (w.alloc (.cells m.cells.toArray 29)))
  have HM0 := Lib.hid hM0
  clear hM0
  go_enter Try.func28, Try.ntmps28
  go_wp2_with ((with_reducible refine ld_mach ?_ (.tmp 1) ?_ (w.heap.size) (0) ?_ m hm hwf ?_); exact rfl; exact rfl; exact rfl)
  refine HIS.out.mono ?_
  rintro e w1 ⟨rfl, hb1⟩
  have hM1 := HM0.out.call hb1
  clear HM0 HIS hm hb1
  cases hp : machP m with
  | false =>
    have HD : Hid (genL m = ([], 1)) := by show _ = _; rw [genL, hp]; rfl
    have hb := hM1.below
    clear hM1 hp
    go_wp2_with fail
    go_ret2
    rw [HD.out]
    exact ⟨_, rfl, hb, OwnI.nil _ _⟩
  | true =>
    have HD : Hid (genL m = genI m) := by show _ = _; rw [genL, hp]; rfl
    have HG := Lib.hid (l10Generators_any m hwf (mach_ok hp) w1)
    have hm1 := hM1.mach 0 rfl
    have HM1 := Lib.hid hM1
    clear hp hM1
    go_wp2_with ((with_reducible refine ld_mach ?_ (.tmp 1) ?_ (w.heap.size) (0) ?_ m hm1 hwf ?_); exact rfl; exact rfl; exact rfl)
    refine HG.out.mono ?_
    rintro e w2 ⟨v, rfl, hb2, hO2⟩
    obtain ⟨a, c, rfl, -⟩ := id hO2.form
    have HO := Lib.hid (hO2.less HM1.out.size)
    have hb := (HM1.out.call hb2).below
    clear HG hO2 hb2 hm1
    go_wp2_with fail
    go_ret2
    rw [HD.out]
    exact ⟨_, rfl, hb, HO.out⟩

set_option maxRecDepth 100000 in
set_option maxHeartbeats 4000000 in
theorem generatorsOf_any (G : Nat) (m : Mch) (hwf : m.Wf) (hok : m.Ok) (w : World) (hG : GrpR w G m) :
    Calls Try.prog 68 #[.pointer (some ⟨G, 0, none⟩)] w (RetI (genI m).1 (genI m).2 w) := by
  obtain ⟨i0, hi0, hz0, hz1, hz2⟩ := info_parts Try.info2
  have hs16 := hok.s_le
  have HOK := Lib.hid hok
  have HG := Lib.hid hG
  have HD : Hid (genI m = match genR m m.s with
    | .error c => ([], c)
    | .ok xs => (xs, 0)) := rfl
  have cs := hG.mach.s
  rw [hok.S_eq] at cs
  have hM0 := (Mm.start w).addNil 2
  clear hG
  go_enter Try.func68, Try.ntmps68
  go_wp2_with fail
  clear cs
  go_loopw [4, 13] (fun o q wr => ∃ (i : Nat) (xs : List Int), i ≤ m.s ∧ q = .int .i64 (i : Int) ∧ Hid (genR m i = .ok xs) ∧ Mm w.heap.size w wr [] [(o, 2, i64s xs)]) (fun _ q _ => 17 - (intOf q).toNat)
  case atStart => exact ⟨0, [], Nat.zero_le _, rfl, rfl, hM0⟩
  case round =>
    clear hM0
    obtain ⟨i, xs, hi, rfl, HX, hM⟩ := hrel
    have hxl := genR_len m i xs HX.out
    have ei : IntKind.i64.wrap ((i : Int) + 1) = (i : Int) + 1 := IntWalk.i64_in _ (by omega)
    have i0' : (0 : Int) ≤ (i : Int) := by omega
    by_cases hlt : i < m.s
    · have j1 : (i : Int) < (m.s : Int) := by omega
      obtain ⟨gc, cc, d1, d2⟩ := HG.out.cls
      obtain ⟨gt, ct, d3, d4⟩ := HG.out.trv
      have c6 := (hM.below.cell (World.block_lt_of_cell? _ _ d3)).trans d3
      have c7 := (hM.below.cell (World.block_lt_of_cell? _ _ (d4 i hlt))).trans (d4 i hlt)
      have c4 := (hM.below.cell (World.block_lt_of_cell? _ _ d1)).trans d1
      have c5 := (hM.below.cell (World.block_lt_of_cell? _ _ (d2 i hlt))).trans (d2 i hlt)
      clear d1 d2 d3 d4
      have HSK := Lib.hid (genR_skip HX.out)
      have HBD := Lib.hid (genR_bad HX.out)
      have HGO := Lib.hid (genR_ok HX.out)
      cases hb : trivB m i with
      | true =>
        rw [hb] at c7
        have HX2 := Lib.hid (HSK.out (.inl hb))
        clear HSK HBD HGO hb c5 c4
        have HM := Lib.hid hM
        clear hM
        go_wp2_with fail
        go_roundw
        case rel => exact ⟨i + 1, xs, by omega, by go_num, HX2.out, HM.out⟩
        case measure => simp [intOf, ei] <;> omega
      | false =>
        rw [hb] at c7
        by_cases hf : m.tbl.fin i = i
        · rw [hf] at c5
          have j3 : ((i : Int) != (i : Int)) = false := by simp
          have HBD := Lib.hid (HBD.out hb hf)
          have HGO := Lib.hid (HGO.out hb hf)
          clear HSK hb hf
          have en : IntKind.i64.wrap (-(i : Int)) = -(i : Int) := IntWalk.i64_in _ (by omega)
          have en2 : IntKind.i64.wrap (-(i : Int) - 1) = -(i : Int) - 1 := IntWalk.i64_in _ (by omega)
          have hg1 : GW m [(i : Int) + 1] := fun k hk => by rw [List.mem_singleton.1 hk]; omega
          have hg2 : GW m [-(i : Int) - 1] := fun k hk => by rw [List.mem_singleton.1 hk]; omega
          have eW : [(i : Int) + 1] ++ invW [-(i : Int) - 1] = [(i : Int) + 1, (i : Int) + 1] := by simp [invW]; omega
          have hxi : (i64s xs).length ≤ 1000000 := by simp only [i64s, List.length_map]; omega
          have HAE : Hid (∀ w6 B0 w0 L G0, Mm B0 w0 w6 L G0 → GrpR w6 G m → Calls Try.prog 108 #[.pointer (some ⟨G, 0, none⟩), .slice (some ⟨w6.heap.size, 0, none⟩) 1 1, .slice (some ⟨w6.heap.size + 1, 0, none⟩) 1 1] ((w6.alloc (.cells #[.int .i64 ((i : Int) + 1)] 2)).alloc (.cells #[.int .i64 (-(i : Int) - 1)] 2))
              (Ret (.tuple #[.bool (trvR m [(i : Int) + 1, (i : Int) + 1]).1, .int .i64 (trvR m [(i : Int) + 1, (i : Int) + 1]).2]) ((w6.alloc (.cells #[.int .i64 ((i : Int) + 1)] 2)).alloc (.cells #[.int .i64 (-(i : Int) - 1)] 2)))) := fun w6 B0 w0 L G0 hM hG => by
            have hMa := (Mm.start w6).newOwn #[.int .i64 ((i : Int) + 1)] 2 1 rfl (by omega)
            have hMb := hMa.newOwn #[.int .i64 (-(i : Int) - 1)] 2 1 rfl (by omega)
            rw [show (w6.alloc (.cells #[.int .i64 ((i : Int) + 1)] 2)).heap.size = w6.heap.size + 1 by simp] at hMb
            have h := areEqual_any G m hwf HOK.out (.slice (some ⟨w6.heap.size, 0, none⟩) 1 1) (.slice (some ⟨w6.heap.size + 1, 0, none⟩) 1 1) [(i : Int) + 1] [-(i : Int) - 1] _ _ hg1 hg2 (by simp) (by simp) _ (hG.keep hMb.below)
              (OwnI.of_row (hMb.own _ (List.mem_cons_of_mem _ (List.mem_cons_self ..)))) (OwnI.of_row (hMb.own _ (List.mem_cons_self ..)))
            rw [eW] at h
            exact h
          generalize trvR m [(i : Int) + 1, (i : Int) + 1] = R at *
          clear eW hg1 hg2
          go_wp2_with (at_builtin; refine Mm.append rfl (.tmp 34) (.tmp 37) 26 rfl hM 0 rfl Try.underlying26 hi0 hz0 hz1 hz2 rfl rfl rfl rfl hxi (by omega) ?_)
          intro g6 c6 w6 hM6
          (try simp only [List.set_cons_zero] at hM6)
          have HAE := Lib.hid (HAE.out w6 _ _ _ _ hM6 (HG.out.keep hM6.below))
          have hMb := (hM6.allocO (.cells #[.int .i64 ((i : Int) + 1)] 2)).allocO (.cells #[.int .i64 (-(i : Int) - 1)] 2)
          clear hM hM6
          go_wp2_with fail
          refine HAE.out.mono ?_
          rintro e w7 ⟨rfl, hb7⟩
          have hM8 := hMb.call hb7
          clear hMb hb7 HAE
          obtain ⟨R1, R2⟩ := R
          simp only at HBD HGO
          by_cases hc : R2 = 0
          · have HX2 := Lib.hid (HGO.out hc)
            subst hc
            have HX2' : Hid (genR m (i + 1) = .ok (xs ++ [(i : Int) + 1] ++ if R1 = true then [] else [-((i : Int) + 1)])) := HX2.out
            clear HX2 HBD HGO
            cases R1 with
            | true =>
              have HX3 : Hid (genR m (i + 1) = .ok (xs ++ [(i : Int) + 1])) := by show _ = _; rw [HX2'.out]; simp
              have HM : Hid (Mm w.heap.size w w7 [] [(.slice (some ⟨g6, 0, none⟩) ((i64s xs).length + 1) c6, 2, i64s (xs ++ [(i : Int) + 1]))]) := by
                show Mm _ _ _ _ _; simpa [i64s] using hM8
              clear hM8 HX2'
              go_wp2_with fail
              go_roundw
              case rel => exact ⟨i + 1, _, by omega, by go_num, HX3.out, HM.out⟩
              case measure => simp [intOf, ei] <;> omega
            | false =>
              have HX3 : Hid (genR m (i + 1) = .ok (xs ++ [(i : Int) + 1] ++ [-(i : Int) - 1])) := by show _ = _; rw [HX2'.out]; simp; omega
              have hxi2 : (i64s xs ++ [Value.int .i64 ((i : Int) + 1)]).length ≤ 1000000 := by simp only [i64s, List.length_append, List.length_map]; simp; omega
              clear HX2'
              go_wp2_with (at_builtin; refine Mm.append rfl (.tmp 56) (.tmp 60) 26 rfl hM8 0 rfl Try.underlying26 hi0 hz0 hz1 hz2 rfl rfl rfl rfl hxi2 (by omega) ?_)
              intro g9 c9 w9 hM9
              have HM : Hid (Mm w.heap.size w w9 [] [(.slice (some ⟨g9, 0, none⟩) ((i64s xs).length + 1 + 1) c9, 2, i64s (xs ++ [(i : Int) + 1] ++ [-(i : Int) - 1]))]) := by
                show Mm _ _ _ _ _
                simpa [i64s] using hM9
              clear hM8 hM9
              go_wp2_with fail
              go_roundw
              case rel => exact ⟨i + 1, _, by omega, by go_num, HX3.out, HM.out⟩
              case measure => simp [intOf, ei] <;> omega
          · have HX2 : Hid (genI m = ([], R2)) := by show _ = _; rw [HD.out, genR_err (HBD.out hc) m.s (by omega)]
            have j4 : (R2 != 0) = true := by simpa using hc
            have hb := hM8.below
            clear HBD HGO hM8 hc
            go_wp2_with fail
            go_ret2
            rw [HX2.out]
            exact ⟨_, rfl, hb, OwnI.nil _ _⟩
        · have j3 : ((m.tbl.fin i : Int) != (i : Int)) = true := by simp; omega
          have HX2 := Lib.hid (HSK.out (.inr hf))
          have HM := Lib.hid hM
          generalize m.tbl.fin i = fi at *
          clear HSK HBD HGO hb hf hM
          go_wp2_with fail
          go_roundw
          case rel => exact ⟨i + 1, xs, by omega, by go_num, HX2.out, HM.out⟩
          case measure => simp [intOf, ei] <;> omega
    · have hi' : i = m.s := by omega
      subst hi'
      have HX2 : Hid (genI m = (xs, 0)) := by show _ = _; rw [HD.out, HX.out]
      have HO := Lib.hid (OwnI.of_row (hM.own _ (List.mem_cons_self ..)))
      have hb := hM.below
      have j1 : ¬ ((m.s : Int) < (m.s : Int)) := by omega
      clear hM
      go_wp2_with fail
      go_ret2
      rw [HX2.out]
      exact ⟨_, rfl, hb, HO.out⟩

set_option maxRecDepth 100000 in
set_option maxHeartbeats 2000000 in
theorem implGeneratorsOf_any (m : Mch) (hwf : m.Wf) (w : World) :
    Calls Try.prog 29 #[.agg m.cells.toArray] w (RetI (genL m).1 (genL m).2 w) := by
  have hM0 := (Mm.start w).alloc m.cells.toArray 29
  have hm := hM0.mach 0 rfl
  have HIS := Lib.hid (IsMachine_any m hwf (w.alloc (.cells m.cells.toArray 29)))
  have HM0 := Lib.hid hM0
  clear hM0
  go_enter Try.func29, Try.ntmps29
  go_wp2_with ((with_reducible refine ld_mach ?_ (.tmp 1) ?_ (w.heap.size) (0) ?_ m hm hwf ?_); exact rfl; exact rfl; exact rfl)
  refine HIS.out.mono ?_
  rintro e w1 ⟨rfl, hb1⟩
  have hM1 := HM0.out.call hb1
  clear HM0 HIS hm hb1
  cases hp : machP m with
  | false =>
    have HD : Hid (genL m = ([], 1)) := by show _ = _; rw [genL, hp]; rfl
    have hb := hM1.below
    clear hM1 hp
    go_wp2_with fail
    go_ret2
    rw [HD.out]
    exact ⟨_, rfl, hb, OwnI.nil _ _⟩
  | true =>
    have HD : Hid (genL m = genI m) := by show _ = _; rw [genL, hp]; rfl
    have hok := mach_ok hp
    have HNG := Lib.hid (newGroup_any m hwf hok w1)
    have HGA : Hid (∀ G w, GrpR w G m → _) := fun G w hG => generatorsOf_any G m hwf hok w hG
    have hm1 := hM1.mach 0 rfl
    have HM1 := Lib.hid hM1
    clear hp hok hM1
    go_wp2_with ((with_reducible refine ld_mach ?_ (.tmp 1) ?_ (w.heap.size) (0) ?_ m hm1 hwf ?_); exact rfl; exact rfl; exact rfl)
    refine HNG.out.mono ?_
    rintro e w2 ⟨G, rfl, hb2, hG⟩
    have HM2 := Lib.hid (HM1.out.call hb2)
    have HGC := Lib.hid (HGA.out G w2 hG)
    clear HNG hG HM1 hm1 hb2 HGA
    go_wp2_with fail
    refine HGC.out.mono ?_
    rintro e w3 ⟨v, rfl, hb3, hO3⟩
    obtain ⟨a, c, rfl, -⟩ := id hO3.form
    have HO := Lib.hid (hO3.less HM2.out.size)
    have hb := (HM2.out.call hb3).below
    clear HGC hO3 hb3 HM2
    go_wp2_with fail
    go_ret2
    rw [HD.out]
    exact ⟨_, rfl, hb, HO.out⟩
end Go.Proofs.Yteagecoiijhflaa

/- Relations, plain; whether two generators may follow each other, both sides. -/
namespace Go.Proofs.Yteagecoiijhflaa
open Go.RowKit
set_option linter.unusedVariables false
set_option linter.unusedSimpArgs false

def okP (gs : List Int) (a b : Int) : Bool := (a != -b) && ((a != b) || decide (-a ∈ gs))
def lastW (w : Wd) : Int := w[w.length - 1]?.getD 0
def headW (w : Wd) : Int := w[0]?.getD 0
def mayE (gs : List Int) (w : Wd) (k : Int) : Bool := decide (w.length = 0) || okP gs (lastW w) k
/-- the words one longer -/
def stepX (gs : List Int) (w : Wd) : List Wd := (gs.filter (mayE gs w)).map fun k => w ++ [k]
def levX (gs : List Int) : Nat → List Wd
  | 0 => [[]]
  | k + 1 => (levX gs k).flatMap (stepX gs)
def extD (gs : List Int) : Nat → Wd → List Wd
  | 0, w => [w]
  | n + 1, w => (stepX gs w).flatMap (extD gs n)
theorem lev_ext (gs : List Int) : ∀ (n k : Nat), (levX gs k).flatMap (extD gs n) = levX gs (k + n)
  | 0, k => by
    have : extD gs 0 = fun w => [w] := funext fun w => rfl
    rw [this]; simp
  | n + 1, k => by
    have h := lev_ext gs n (k + 1)
    rw [show k + 1 + n = k + (n + 1) by omega] at h
    rw [← h, levX, List.flatMap_assoc]
    rfl
theorem ext_lev (gs : List Int) (n : Nat) : extD gs n [] = levX gs n := by
  have h := lev_ext gs n 0
  simpa [levX] using h
def cycB2 (gs : List Int) (w : Wd) : Bool := decide (w.length ≤ 1) || okP gs (lastW w) (headW w)
def stW (m : Mch) (gs : List Int) (s : Except Int (List Wd)) (w : Wd) : Except Int (List Wd) := match s with
  | .error c => .error c
  | .ok out => if cycB2 gs w = false then .ok out else
    if (trvR m w).2 ≠ 0 then .error (trvR m w).2 else .ok (if (trvR m w).1 = true then out ++ [w] else out)
def relS (m : Mch) (gs : List Int) (ws : List Wd) (s : Except Int (List Wd)) : Except Int (List Wd) := ws.foldl (stW m gs) s
theorem relS_nil (m : Mch) (gs : List Int) (s : Except Int (List Wd)) : relS m gs [] s = s := rfl
theorem relS_app (m : Mch) (gs : List Int) (a b : List Wd) (s : Except Int (List Wd)) : relS m gs (a ++ b) s = relS m gs b (relS m gs a s) := List.foldl_append ..
theorem relS_err (m : Mch) (gs : List Int) (c : Int) : ∀ ws : List Wd, relS m gs ws (.error c) = .error c
  | [] => rfl
  | w :: ws => relS_err m gs c ws
theorem relS_len {m : Mch} {gs : List Int} : ∀ {ws : List Wd} {out rows : List Wd}, relS m gs ws (.ok out) = .ok rows → rows.length ≤ out.length + ws.length
  | [], out, rows, h => by injection h with h; subst h; simp
  | w :: ws, out, rows, h => by
    have h' : relS m gs ws (stW m gs (.ok out) w) = .ok rows := h
    simp only [stW] at h'
    split at h'
    · have := relS_len h'; simp; omega
    · split at h'
      · rw [relS_err] at h'; cases h'
      · have := relS_len h'
        split at this <;> simp at this ⊢ <;> omega
theorem stepX_len (gs : List Int) (w : Wd) : (stepX gs w).length ≤ gs.length := by
  rw [stepX, List.length_map]; exact List.length_filter_le _ _
theorem flat_bound {α : Type} {β : Type} (f : α → List β) (n : Nat) : ∀ (xs : List α), (∀ x ∈ xs, (f x).length ≤ n) → (xs.flatMap f).length ≤ n * xs.length
  | [], _ => by simp
  | x :: xs, h => by
    have h1 := h x (by simp)
    have h2 := flat_bound f n xs fun y hy => h y (by simp [hy])
    rw [List.flatMap_cons, List.length_append, List.length_cons, Nat.mul_succ]
    omega
theorem levX_len (gs : List Int) (h8 : gs.length ≤ 8) : ∀ k, (levX gs k).length ≤ 8 ^ k
  | 0 => by simp [levX]
  | k + 1 => by
    have h1 := levX_len gs h8 k
    have h2 := flat_bound (stepX gs) 8 (levX gs k) fun w _ => Nat.le_trans (stepX_len gs w) h8
    rw [levX, Nat.pow_succ]; omega
theorem extD_len (gs : List Int) (h8 : gs.length ≤ 8) : ∀ n w, (extD gs n w).length ≤ 8 ^ n
  | 0, w => by simp [extD]
  | n + 1, w => by
    have h2 := flat_bound (extD gs n) (8 ^ n) (stepX gs w) fun v _ => extD_len gs h8 n v
    have h3 := stepX_len gs w
    have h4 : 8 ^ n * (stepX gs w).length ≤ 8 ^ n * 8 := Nat.mul_le_mul_left _ (by omega)
    rw [extD, Nat.pow_succ]; omega
theorem levX_word {m : Mch} {gs : List Int} (hg : GW m gs) : ∀ (k : Nat) (w : Wd), w ∈ levX gs k → w.length = k ∧ GW m w
  | 0, w, h => by
    simp only [levX, List.mem_singleton] at h
    subst h
    exact ⟨rfl, fun q hq => by cases hq⟩
  | k + 1, w, h => by
    simp only [levX, List.mem_flatMap, stepX, List.mem_map, List.mem_filter] at h
    obtain ⟨v, hv, q, ⟨hq, -⟩, rfl⟩ := h
    obtain ⟨h1, h2⟩ := levX_word hg k v hv
    exact ⟨by simp [h1], gw_app h2 fun p hp => by rw [List.mem_singleton.1 hp]; exact hg q hq⟩

def relI (m : Mch) (l : Int) : List Wd × Int := match machP m with
  | false => ([], 1)
  | true => match inR l 1 4 with
    | false => ([], 2)
    | true => if (genI m).2 ≠ 0 then ([], (genI m).2) else if 8 < (genI m).1.length then ([], 2) else
      match relS m (genI m).1 (levX (genI m).1 l.toNat) (.ok []) with
      | .error c => ([], c)
      | .ok out => (out, 0)

set_option maxHeartbeats 1000000 in
theorem l02Has_any (a : Option Addr) (c : Nat) (xs : List Int) (y : Int) (hx : xs.length ≤ 1000000) (w : World) (ha : IntsAt w a xs) :
    Calls Try.prog 112 #[.slice a xs.length c, .int .i64 y] w (RetQ (.bool (decide (y ∈ xs))) w) := by
  have HA := Lib.hid ha
  clear ha
  go_enter Try.func112, Try.ntmps112
  go_wp2_with fail
  go_loopw [5] (fun i wr => ∃ j : Nat, j ≤ xs.length ∧ i = .int .i64 j ∧ Hid (∃ n, wr = w.drewN n) ∧ Hid (∀ q, q < j → xs[q]?.getD 0 ≠ y)) (fun i _ => xs.length - (intOf i).toNat)
  case atStart => exact ⟨0, Nat.zero_le _, rfl, ⟨0, rfl⟩, fun q hq => by omega⟩
  case round =>
    obtain ⟨j, hj, rfl, HW, HN⟩ := hrel
    by_cases hlt : j < xs.length
    · obtain ⟨g, off, rfl, hc⟩ := HA.out j hlt
      have hcell : ∀ a, wr.cell? a = w.cell? a := fun a => by obtain ⟨n, hn⟩ := HW.out; rw [hn]; rfl
      rw [← hcell] at hc
      clear hcell
      have i1 : (0 : Int) ≤ (j : Int) := by omega
      have i2 : (j : Int) < (xs.length : Int) := by omega
      obtain ⟨x, hx⟩ : ∃ x, x = xs[j]?.getD 0 := ⟨_, rfl⟩
      rw [← hx] at hc
      by_cases e : x = y
      · have HR : Hid (decide (y ∈ xs) = true) := decide_eq_true (by
          rw [← e, hx, List.getElem?_eq_getElem hlt, Option.getD_some]; exact List.getElem_mem hlt)
        subst e
        clear hx
        go_wp2_with fail
        go_ret
        exact ⟨ret_bool HR.out.symm, HW.out⟩
      · have HN2 : Hid (∀ q, q < j + 1 → xs[q]?.getD 0 ≠ y) := fun q hq => by
          by_cases h : q = j
          · subst h; rw [← hx]; exact e
          · exact HN.out q (by omega)
        have e1 : (x == y) = false := by simpa using e
        clear hx
        go_wp2_with fail
        go_roundw
        case rel => exact ⟨j + 1, by omega, by go_num, HW.out, HN2⟩
        case measure => simp [intOf] <;> omega
    · have HR : Hid (decide (y ∈ xs) = false) := decide_eq_false fun h => by
        obtain ⟨q, hq, e⟩ := List.getElem_of_mem h
        exact HN.out q (by omega) (by rw [List.getElem?_eq_getElem hq, Option.getD_some, e])
      have hj' : ¬ (j : Int) < xs.length := by omega
      go_wp2_with fail
      go_ret
      exact ⟨ret_bool HR.out.symm, HW.out⟩

theorem okP_opp {gs : List Int} {a b : Int} (h : a = -b) : okP gs a b = false := by simp [okP, h]
theorem okP_ne {gs : List Int} {a b : Int} (h : a ≠ -b) (h2 : a ≠ b) : okP gs a b = true := by simp [okP, h, h2]
theorem okP_eq {gs : List Int} {a b : Int} (h : a ≠ -b) (h2 : a = b) : okP gs a b = decide (-a ∈ gs) := by
  subst h2
  have : (a != -a) = true := by simpa using h
  rw [okP, this]; simp

set_option maxHeartbeats 1000000 in
theorem mayFollow_any (a : Option Addr) (c : Nat) (gs : List Int) (x y : Int) (hl : gs.length ≤ 1000) (hx : -1000 ≤ x ∧ x ≤ 1000) (hy : -1000 ≤ y ∧ y ≤ 1000) (w : World) (ha : IntsAt w a gs) :
    Calls Try.prog 113 #[.slice a gs.length c, .int .i64 x, .int .i64 y] w (RetQ (.bool (okP gs x y)) w) := by
  have HC := Lib.hid (slContainsI_any a c gs (-x) (by omega) w ha)
  have e1 : IntKind.i64.wrap (-y) = -y := IntWalk.i64_in _ (by omega)
  have e2 : IntKind.i64.wrap (-x) = -x := IntWalk.i64_in _ (by omega)
  go_enter Try.func113, Try.ntmps113
  by_cases h1 : x = -y
  · have HR := Lib.hid (okP_opp (gs := gs) h1)
    have t1 : (x != -y) = false := by simpa using h1
    clear h1 ha
    go_wp2_with fail
    go_ret
    exact ⟨ret_bool HR.out.symm, 0, rfl⟩
  · have t1 : (x != -y) = true := by simpa using h1
    by_cases h2 : x = y
    · have HR := Lib.hid (okP_eq (gs := gs) h1 h2)
      have t2 : (x != y) = false := by simpa using h2
      clear h1 h2 ha
      go_wp2_with (refine HC.out.mono ?_; rintro e w1 ⟨rfl, n, rfl⟩)
      go_ret
      exact ⟨ret_bool HR.out.symm, n, rfl⟩
    · have HR := Lib.hid (okP_ne (gs := gs) h1 h2)
      have t2 : (x != y) = true := by simpa using h2
      clear h1 h2 ha
      go_wp2_with fail
      go_ret
      exact ⟨ret_bool HR.out.symm, 0, rfl⟩
set_option maxHeartbeats 1000000 in
theorem l10Apart_any (a : Option Addr) (c : Nat) (gs : List Int) (x y : Int) (hl : gs.length ≤ 1000) (hx : -1000 ≤ x ∧ x ≤ 1000) (hy : -1000 ≤ y ∧ y ≤ 1000) (w : World) (ha : IntsAt w a gs) :
    Calls Try.prog 73 #[.slice a gs.length c, .int .i64 x, .int .i64 y] w (RetQ (.bool (okP gs x y)) w) := by
  have HC := Lib.hid (l02Has_any a c gs (-x) (by omega) w ha)
  have e1 : IntKind.i64.wrap (-y) = -y := IntWalk.i64_in _ (by omega)
  have e2 : IntKind.i64.wrap (-x) = -x := IntWalk.i64_in _ (by omega)
  go_enter Try.func73, Try.ntmps73
  by_cases h1 : x = -y
  · have HR := Lib.hid (okP_opp (gs := gs) h1)
    have t1 : (x != -y) = false := by simpa using h1
    clear h1 ha
    go_wp2_with fail
    go_ret
    exact ⟨ret_bool HR.out.symm, 0, rfl⟩
  · have t1 : (x != -y) = true := by simpa using h1
    by_cases h2 : x = y
    · have HR := Lib.hid (okP_eq (gs := gs) h1 h2)
      have t2 : (x != y) = false := by simpa using h2
      clear h1 h2 ha
      go_wp2_with (refine HC.out.mono ?_; rintro e w1 ⟨rfl, n, rfl⟩)
      go_ret
      exact ⟨ret_bool HR.out.symm, n, rfl⟩
    · have HR := Lib.hid (okP_ne (gs := gs) h1 h2)
      have t2 : (x != y) = true := by simpa using h2
      clear h1 h2 ha
      go_wp2_with fail
      go_ret
      exact ⟨ret_bool HR.out.symm, 0, rfl⟩
end Go.Proofs.Yteagecoiijhflaa

/- The relations that go on with a word: the program's search. -/
namespace Go.Proofs.Yteagecoiijhflaa
open Go.RowKit
set_option linter.unusedVariables false
set_option linter.unusedSimpArgs false

def pfx (gs : List Int) (w : Wd) (n i : Nat) : List Wd := (((gs.take i).filter (mayE gs w)).map fun k => w ++ [k]).flatMap (extD gs n)
theorem pfx_zero (gs : List Int) (w : Wd) (n : Nat) : pfx gs w n 0 = [] := rfl
theorem pfx_all (gs : List Int) (w : Wd) (n : Nat) : pfx gs w n gs.length = extD gs (n + 1) w := by
  rw [pfx, List.take_length]; rfl
theorem pfx_yes {gs : List Int} {w : Wd} {n i : Nat} (h : i < gs.length) (hm : mayE gs w (gs[i]?.getD 0) = true) : pfx gs w n (i + 1) = pfx gs w n i ++ extD gs n (w ++ [gs[i]?.getD 0]) := by
  rw [List.getElem?_eq_getElem h, Option.getD_some] at hm ⊢
  simp only [pfx, List.take_succ_eq_append_getElem h, List.filter_append, List.map_append, List.flatMap_append, List.filter_cons, hm, if_true, List.filter_nil, List.map_cons, List.map_nil, List.flatMap_cons, List.flatMap_nil, List.append_nil]
theorem pfx_no {gs : List Int} {w : Wd} {n i : Nat} (h : i < gs.length) (hm : mayE gs w (gs[i]?.getD 0) = false) : pfx gs w n (i + 1) = pfx gs w n i := by
  rw [List.getElem?_eq_getElem h, Option.getD_some] at hm
  simp only [pfx, List.take_succ_eq_append_getElem h, List.filter_append, List.map_append, List.flatMap_append, List.filter_cons, hm, if_false, Bool.false_eq_true, List.filter_nil, List.map_nil, List.flatMap_nil, List.append_nil]
theorem pfx_len (gs : List Int) (h8 : gs.length ≤ 8) (w : Wd) (n i : Nat) (hi : i ≤ gs.length) : (pfx gs w n i).length ≤ 8 ^ n * i := by
  have h1 := flat_bound (extD gs n) (8 ^ n) (((gs.take i).filter (mayE gs w)).map fun k => w ++ [k]) fun v _ => extD_len gs h8 n v
  have h2 : (((gs.take i).filter (mayE gs w)).map fun k => w ++ [k]).length ≤ i := by
    rw [List.length_map]
    refine Nat.le_trans (List.length_filter_le _ _) ?_
    simp; omega
  exact Nat.le_trans h1 (Nat.mul_le_mul_left _ h2)
/-- what the search gives: a longer list, or an error -/
def RetD (w0 : World) (GL : List (Value × TypeId × List Value)) (n : Nat) (r : Except Int (List Wd)) (e : Ending) (w' : World) : Prop := match r with
  | .ok rows => ∃ v rv, e = .returned (.tuple #[v, .int .i64 0]) ∧ rv.length = rows.length ∧ Mm w0.heap.size w0 w' [] ((v, 26, rv) :: (rowG rv rows ++ GL))
  | .error c => ∃ v, e = .returned (.tuple #[v, .int .i64 c]) ∧ c ≠ 0 ∧ (0 < n → v = .slice none 0 0) ∧ Mm w0.heap.size w0 w' [] GL
theorem getD_range {m : Mch} {gs : List Int} (hs : m.s ≤ 16) (hg : GW m gs) (i : Nat) : -1000 ≤ gs[i]?.getD 0 ∧ gs[i]?.getD 0 ≤ 1000 := by
  rcases Nat.lt_or_ge i gs.length with h | h
  · rw [List.getElem?_eq_getElem h, Option.getD_some]
    have := hg _ (List.getElem_mem h); omega
  · rw [List.getElem?_eq_none h]; simp

theorem leaf_append {B : Nat} {w0 w : World} {o r : Value} {rv : List Value} {rows : List Wd} {x : Wd} {GL : List (Value × TypeId × List Value)}
    (h : Mm B w0 w [] ((o, 26, rv ++ [r]) :: (r, 2, i64s x) :: (rowG rv rows ++ GL))) (hl : rv.length = rows.length) : Mm B w0 w [] ((o, 26, rv ++ [r]) :: (rowG (rv ++ [r]) (rows ++ [x]) ++ GL)) := by
  rw [rowG_snoc _ _ hl]
  refine h.permG (List.Perm.cons _ ?_)
  rw [List.append_assoc]
  exact List.perm_middle.symm
set_option maxRecDepth 100000 in
set_option maxHeartbeats 4000000 in
theorem relations_zero (m : Mch) (hwf : m.Wf) (hok : m.Ok) (G : Nat) (ga : Option Addr) (gc : Nat) (gs : List Int) (hgs : GW m gs) (h8 : gs.length ≤ 8) (w0 : World) (hG : GrpR w0 G m) (hI : IntsAt w0 ga gs)
    (w : Wd) (hw : w.length ≤ 4) (hGW : GW m w) (W : World) (outv wv : Value) (rv : List Value) (rows : List Wd) (GL : List (Value × TypeId × List Value)) (hl : rv.length = rows.length) (hr : rows.length ≤ 100000)
    (hM : Mm w0.heap.size w0 W [] ((outv, 26, rv) :: (wv, 2, i64s w) :: (rowG rv rows ++ GL))) :
    Calls Try.prog 74 #[.pointer (some ⟨G, 0, none⟩), outv, .slice ga gs.length gc, wv, .int .i64 0] W (RetD w0 GL 0 (relS m gs (extD gs 0 w) (.ok rows))) := by
  have hs16 := hok.s_le
  obtain ⟨j0, hj0, hy0, hy1, hy2⟩ := info_parts Try.info26
  obtain ⟨aw, cw, rfl, hIw⟩ := (OwnI.of_row (hM.own _ (List.mem_cons_of_mem _ (List.mem_cons_self ..)))).form
  have HIw := Lib.hid hIw
  have HIG := Lib.hid (hI.keep hM.below)
  have HGR := Lib.hid (hG.keep hM.below)
  have HRS : Hid (relS m gs (extD gs 0 w) (.ok rows) = if cycB2 gs w = false then .ok rows else
    if (trvR m w).2 ≠ 0 then .error (trvR m w).2 else .ok (if (trvR m w).1 = true then rows ++ [w] else rows)) := rfl
  have HL := Lib.hid hl
  have HDROP : Hid (∀ W', Mm w0.heap.size w0 W' [] ((outv, 26, rv) :: (.slice aw w.length cw, 2, i64s w) :: (rowG rv rows ++ GL)) → Mm w0.heap.size w0 W' [] ((outv, 26, rv) :: (rowG rv rows ++ GL))) := fun W' h => h.subG ((List.sublist_cons_self _ _).cons_cons _)
  have HDRO2 : Hid (∀ W', Mm w0.heap.size w0 W' [] ((outv, 26, rv) :: (.slice aw w.length cw, 2, i64s w) :: (rowG rv rows ++ GL)) → Mm w0.heap.size w0 W' [] GL) := fun W' h => h.subG (((List.sublist_append_right _ _).cons _).cons _)
  have HT : Hid (∀ n, Calls Try.prog 63 #[.pointer (some ⟨G, 0, none⟩), .slice aw w.length cw] (W.drewN n) (Ret (.tuple #[.bool (trvR m w).1, .int .i64 (trvR m w).2]) (W.drewN n))) := fun n => isTrivial_any G m hwf hok aw w cw hGW (by omega) (W.drewN n) (HGR.out.keep (dN_below W n)) (HIw.out.keep (dN_below W n))
  have HTC := Lib.hid (trvR_cases m w)
  have HM := Lib.hid hM
  have HGW := Lib.hid hGW
  clear hM hIw hG hI hl hGW
  go_enter Try.func74, Try.ntmps74
  have HMF : Hid (∀ n, Calls Try.prog 113 #[.slice ga gs.length gc, .int .i64 (lastW w), .int .i64 (headW w)] (W.drewN n) (RetQ (.bool (okP gs (lastW w) (headW w))) (W.drewN n))) := fun n => mayFollow_any ga gc gs (lastW w) (headW w) (by omega) (getD_range hs16 HGW.out _) (getD_range hs16 HGW.out _) (W.drewN n) (HIG.out.keep (dN_below W n))
  have HC1 : Hid (1 < w.length → ∃ bw ow, aw = some ⟨bw, ow, none⟩ ∧ W.cell? ⟨bw, ow + (w.length - 1), none⟩ = some (.int .i64 (lastW w)) ∧ W.cell? ⟨bw, ow, none⟩ = some (.int .i64 (headW w))) := fun h => by
    obtain ⟨b, o, rfl, c1⟩ := HIw.out (w.length - 1) (by omega)
    obtain ⟨b', o', e, c2⟩ := HIw.out 0 (by omega)
    injection e with e; injection e with e1 e2; subst e1 e2
    exact ⟨b, o, rfl, c1, c2⟩
  by_cases h1 : w.length ≤ 1
  case' pos =>
    have hcy : cycB2 gs w = true := by rw [cycB2, decide_eq_true h1]; rfl
    rw [hcy] at HRS
    have j1 : ¬ ((1 : Int) < (w.length : Int)) := by omega
    have j1' : decide ((1 : Int) < (w.length : Int)) = false := decide_eq_false j1
    clear hcy h1
    go_wp2_with fail
    go_quiet (fail)
    go_wp2_with fail
  case' neg =>
    have hcy : cycB2 gs w = okP gs (lastW w) (headW w) := by rw [cycB2, decide_eq_false h1]; rfl
    rw [hcy] at HRS
    have j1 : (1 : Int) < (w.length : Int) := by omega
    have j1' : decide ((1 : Int) < (w.length : Int)) = true := decide_eq_true j1
    have e1 : IntKind.i64.wrap ((w.length : Int) - 1) = ((w.length - 1 : Nat) : Int) := by rw [IntWalk.i64_in _ (by omega)]; omega
    have i0 : (0 : Int) ≤ ((w.length - 1 : Nat) : Int) := by omega
    have i2 : ((w.length - 1 : Nat) : Int) < (w.length : Int) := by omega
    have i3 : (0 : Int) < (w.length : Int) := by omega
    obtain ⟨bw, ow, rfl, c1, c2⟩ := HC1.out (by omega)
    generalize lastW w = lw at *
    generalize headW w = hw at *
    generalize okP gs lw hw = okv at *
    clear hcy h1 HC1
    cases okv
    case' false =>
      have HR : Hid (relS m gs (extD gs 0 w) (.ok rows) = .ok rows) := HRS.out
      go_wp2_with fail
      go_quiet ((go_at_call 113; exact Calls.quiet_of (HMF.out _)))
      go_wp2_with fail
      go_ret2
      rw [HR.out]
      exact ⟨_, rv, rfl, HL.out, HDROP.out _ (HM.out.drewN _)⟩
    go_wp2_with fail
    go_quiet ((go_at_call 113; exact Calls.quiet_of (HMF.out _)))
    go_wp2_with fail
  all_goals
    refine (HT.out _).mono ?_
    rintro e w1 ⟨rfl, hb1⟩
    have hM1 := (HM.out.drewN _).call hb1
    have HR : Hid (relS m gs (extD gs 0 w) (.ok rows) = if (trvR m w).2 ≠ 0 then .error (trvR m w).2 else .ok (if (trvR m w).1 = true then rows ++ [w] else rows)) := HRS.out
    rcases HTC.out with h | h | h
    · rw [h] at HR ⊢
      have HR2 : Hid (relS m gs (extD gs 0 w) (.ok rows) = .ok (rows ++ [w])) := HR.out
      have hrl : rv.length ≤ 1000000 := by rw [HL.out]; omega
      clear HRS HT HTC HR h hb1
      go_wp2_with (at_builtin; refine Mm.append rfl (.tmp 46) (.tmp 48) 35 rfl hM1 0 rfl Try.underlying35 hj0 hy0 hy1 hy2 rfl rfl rfl rfl hrl (by omega) ?_)
      intro g6 c6 w6 hM6
      have HM6 := Lib.hid (leaf_append hM6 HL.out)
      clear hM1 hM6
      go_wp2_with fail
      go_ret2
      rw [HR2.out]
      exact ⟨_, _, rfl, by rw [List.length_append, List.length_append, HL.out]; rfl, HM6.out⟩
    · rw [h] at HR ⊢
      have HR2 : Hid (relS m gs (extD gs 0 w) (.ok rows) = .ok rows) := HR.out
      have HM2 := Lib.hid (HDROP.out _ hM1)
      clear HRS HT HTC HR h hb1 hM1
      go_wp2_with fail
      go_ret2
      rw [HR2.out]
      exact ⟨_, rv, rfl, HL.out, HM2.out⟩
    · rw [h] at HR ⊢
      have HR2 : Hid (relS m gs (extD gs 0 w) (.ok rows) = .error 3) := HR.out
      have HM2 := Lib.hid (HDRO2.out _ hM1)
      clear HRS HT HTC HR h hb1 hM1
      go_wp2_with fail
      go_ret2
      rw [HR2.out]
      exact ⟨_, rfl, by decide, fun h => by omega, HM2.out⟩
end Go.Proofs.Yteagecoiijhflaa
