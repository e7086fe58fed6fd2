/- IsDesk returns what its reference returns, for all arguments. No condition. -/
import Derived.Test.YtmacnofkpdikiaaJ2
namespace Go.Proofs.Ytmacnofkpdikiaa
open Go.ChangeShapes Go.WideShapes Go.ChangeAt Go.RowKit
set_option linter.unusedVariables false
set_option linter.unusedSimpArgs false

theorem run_load_desk {b T : Nat} {D : List Value} {d : TypeDesc} (hu : Try.prog.underlying T = some d) (hd : d.isRow = true) (hi : (Try.prog.info? T).map (·.size) = some D.length) (x : Operand) {a : Act} {o : Oper} (ho : o.op = .load T x) (hx : a.eval x = .pointer (some ⟨b, 0, none⟩)) {w : World} (h : w.rangeAt b 0 D) :
    (execOp a.eval o).run Try.prog w = .ok (.value (.agg D.toArray)) w := by
  unfold execOp
  simp only [ho, hx, Instr.loadAt, Instr.sureAddr, Sem.run_bind, Sem.run_pure, Result.andThen_ok, run_loadVar_mid w b 0 T D d h hu hd hi]

set_option maxRecDepth 100000 in
set_option maxHeartbeats 2000000 in
theorem lawIsDesk_walk (m : Mch) (hwf : m.Wf) (u v : Value) (xs ys : List Int) (hx : xs.length ≤ 9223372036854775807) (hy : ys.length ≤ 9223372036854775807) (w : World) (hu : SlI w u xs) (hv : SlI w v ys) :
    Calls Try.prog 7 #[.agg (dcells m u v).toArray] w (Ret (.bool true) w) := by
  have HU := Lib.hid hu
  have HV := Lib.hid hv
  have HW := Lib.hid hwf
  have hSZ : ∀ W, Calls Try.prog 26 #[.agg (dcells m u v).toArray, .int .i64 1048576] W fun e w' => ∃ r : Int, e = .returned (.int .i64 r) ∧ (r = -1 ∨ (0 ≤ r ∧ xs.length ≤ 1048576 ∧ ys.length ≤ 1048576)) ∧ Below W.heap.size W w' := fun W => by
    obtain ⟨a, c, rfl, _⟩ := hu
    obtain ⟨b, d, rfl, _⟩ := hv
    exact szDesk_any m hwf a b xs.length ys.length c d hx hy W
  have hD0 := DAt.boxed w m u v 41
  have hb0 := boxedBelow w (dcells m u v).toArray 41
  have HD : Hid (∀ W, Below (w.heap.size + 1) (w.alloc (.cells (dcells m u v).toArray 41)) W → W.rangeAt w.heap.size 0 (dcells m u v)) := fun W hW => hD0.below hW (by omega)
  have hi : Hid ((Try.prog.info? 41).map (·.size) = some (dcells m u v).length) := by show _ = _; rw [dcells_length hwf]; kernel_rfl
  have HSZ := Lib.hid hSZ
  have HTD : Hid (∀ W, Below w.heap.size w W → xs.length ≤ 1100000 → ys.length ≤ 1100000 → Calls Try.prog 28 #[.agg (dcells m u v).toArray] W fun e w' => ∃ u' v', e = .returned (.agg (dcells m u' v').toArray) ∧ Below W.heap.size W w' ∧ OwnI w' W.heap.size u' xs ∧ OwnI w' W.heap.size v' ys) :=
    fun W hW h1 h2 => toDesk_any m hwf u v xs ys h1 h2 W (hu.below hW) (hv.below hW)
  clear hu hv hSZ hD0
  have hsz0 : (w.alloc (.cells (dcells m u v).toArray 41)).heap.size = w.heap.size + 1 := by simp
  have HS0 := Lib.hid hsz0
  clear hsz0
  have hr0 := HD.out _ (Below.refl _ _)
  generalize dcells m u v = D at *
  go_enter Try.func7, Try.ntmps7
  go_wp2_with ((with_reducible refine ld_row ?_ 41 (.tmp 1) ?_ w.heap.size 0 ?_ D (.struct _) hr0 Try.underlying41 ?_ hi.out ?_); exact rfl; exact rfl; exact rfl; exact rfl)
  refine (HSZ.out _).mono ?_
  rintro e w1 ⟨r, rfl, hr, hb1⟩
  have hbb1 := hb0.trans (hb1.mono hb0.size)
  have HB1 : Hid (Below (w.heap.size + 1) (w.alloc (.cells D.toArray 41)) w1) := by rw [← HS0.out]; exact hb1
  clear hr0 HSZ
  rcases hr with rfl | ⟨r0, rx, ry⟩
  · go_wp2_with fail
    go_ret
    exact ⟨rfl, hbb1⟩
  · have hr1 := HD.out _ HB1.out
    have r0' : ¬ r < 0 := by omega
    go_wp2_with ((with_reducible refine ld_row ?_ 41 (.tmp 1) ?_ w.heap.size 0 ?_ D (.struct _) hr1 Try.underlying41 ?_ hi.out ?_); exact rfl; exact rfl; exact rfl; exact rfl)
    refine (HTD.out _ hbb1 (by omega) (by omega)).mono ?_
    rintro e w2 ⟨u2, v2, rfl, hb2, hu2, hv2⟩
    have hbb2 := hbb1.trans (hb2.mono hbb1.size)
    have hs1 : w.heap.size + 1 ≤ w1.heap.size := by have := HB1.out.size; have := HS0.out; omega
    have HB2 := Lib.hid (HB1.out.trans (hb2.mono hs1))
    clear hr1
    go_wp2_with fail
    refine (specIsDesk_any m HW.out u2 v2 xs ys (by omega) (by omega) _ hu2.sl hv2.sl).mono ?_
    rintro e w3 ⟨rfl, hb3⟩
    have hbb3 := hbb2.trans (hb3.mono hbb2.size)
    have HB3 := Lib.hid (HB2.out.trans (hb3.mono (by have := hb2.size; omega)))
    have hr3 := HD.out _ HB3.out
    clear hu2 hv2
    obtain ⟨bb, hbbe⟩ : ∃ bb, bb = (gwP m xs && gwP m ys) := ⟨_, rfl⟩
    rw [← hbbe]
    have HBB := Lib.hid hbbe
    clear hbbe
    go_wp2_with ((with_reducible refine ld_row ?_ 41 (.tmp 1) ?_ w.heap.size 0 ?_ D (.struct _) hr3 Try.underlying41 ?_ hi.out ?_); exact rfl; exact rfl; exact rfl; exact rfl)
    refine (HTD.out _ hbb3 (by omega) (by omega)).mono ?_
    rintro e w4 ⟨u4, v4, rfl, hb4, hu4, hv4⟩
    have hbb4 := hbb3.trans (hb4.mono hbb3.size)
    have HB4 := Lib.hid (HB3.out.trans (hb4.mono (by have := hb2.size; have := hb3.size; omega)))
    have hM := (Mm.start w4).alloc Try.zeroCells46 46
    have hZ : Try.zeroCells46.toList.length = 100 := by rw [Array.length_toList]; exact Try.zeroCells46_size
    have hl4 := dcells_length HW.out u4 v4
    have ht4 := (hM.at 0 rfl).there 0 (dcells m u4 v4).length (by rw [hZ, hl4]; omega)
    have hM5 := hM.setAll 0 rfl (vs := dcells m u4 v4) (by rw [hZ, hl4])
    have hi4 : Hid ((Try.prog.info? 46).map (·.size) = some (dcells m u4 v4).length) := by show _ = _; rw [hl4]; kernel_rfl
    have H4 : Hid (∀ x ∈ dcells m u4 v4, x.oneCell' = true) := fun x hx => by
      rcases List.mem_append.1 hx with h | h
      · exact mcells_one x h
      · simp at h; rcases h with rfl | rfl
        · exact hu4.one
        · exact hv4.one
    have HU4 := Lib.hid (hu4.sl.below hM5.below)
    have HV4 := Lib.hid (hv4.sl.below hM5.below)
    have HID : ∀ W, SlI W u4 xs → SlI W v4 ys → Calls Try.prog 29 #[.agg (dcells m u4 v4).toArray] W (Ret (.bool bb) W) := fun W h1 h2 => by rw [HBB.out]; exact implIsDesk_any m HW.out u4 v4 xs ys (by omega) (by omega) W h1 h2
    have HEQ : ∀ W u' v', SlI W u4 xs → SlI W v4 ys → SlI W u' xs → SlI W v' ys → Calls Try.prog 30 #[.agg (dcells m u4 v4).toArray, .agg (dcells m u' v').toArray] W (Ret (.bool true) W) := fun W u' v' h1 h2 h3 h4 => eqDesk_same m HW.out u4 v4 u' v' xs ys (by omega) (by omega) W h1 h2 h3 h4
    have HIDH := Lib.hid HID
    have HEQH := Lib.hid HEQ
    have hr5 := (hM5.at 0 rfl).all
    clear hl4 hM hu4 hv4 hr3 HID HEQ hZ
    generalize dcells m u4 v4 = D4 at *
    go_wp2_with (first | ((with_reducible refine st_row ?_ 46 (.tmp 5) (.tmp 16) ?_ w4.heap.size 0 D4 ?_ ?_ ht4 hi4.out H4.out ?_); exact rfl; exact rfl; exact rfl; exact rfl) | ((with_reducible refine ld_row ?_ 46 (.tmp 5) ?_ w4.heap.size 0 ?_ D4 (.struct _) hr5 Try.underlying46 ?_ hi4.out ?_); exact rfl; exact rfl; exact rfl; exact rfl))
    obtain ⟨w5, hw5⟩ : ∃ w5, w5 = (w4.alloc (.cells Try.zeroCells46 46)).setCells w4.heap.size 0 D4 := ⟨_, rfl⟩
    rw [← hw5] at hM5 hr5 HU4 HV4
    rw [← hw5]
    clear hw5 ht4
    refine (HIDH.out _ HU4.out HV4.out).mono ?_
    rintro e w6 ⟨rfl, hb6⟩
    have hbb5 := hbb4.trans (hM5.below.mono hbb4.size)
    have hbb6 := hbb5.trans (hb6.mono hbb5.size)
    have HU6 := Lib.hid (HU4.out.below hb6)
    have HV6 := Lib.hid (HV4.out.below hb6)
    have hlt5 := (hM5.at 0 rfl).lt
    have HR : Hid (∀ W, Below w6.heap.size w6 W → W.rangeAt w4.heap.size 0 D4) := fun W hW j x hj => by
      have h1 := hr5 j x hj
      have h2 := (hb6.cell (p := ⟨w4.heap.size, 0 + j, none⟩) hlt5).trans h1
      exact (hW.cell (p := ⟨w4.heap.size, 0 + j, none⟩) (by have := hb6.size; simp only at hlt5 ⊢; omega)).trans h2
    have HR0 : Hid (∀ W, Below w6.heap.size w6 W → W.rangeAt w.heap.size 0 D) := fun W hW => HD.out W (by
      have h4 := HB4.out
      have s1 := h4.size
      have h5 := h4.trans (hM5.below.mono (by have := HS0.out; omega))
      have s2 := h5.size
      have h6 := h5.trans (hb6.mono (by have := HS0.out; omega))
      exact h6.trans (hW.mono (by have := HS0.out; have := h6.size; omega)))
    have hmx : Try.prog.follows .mixedOrders = true := by kernel_rfl
    have HMX := Lib.hid hmx
    clear hr5 hM5 hmx
    go_wp2_with fail
    refine region_S (fun W => W.rangeAt w4.heap.size 0 D4 ∧ W.rangeAt w.heap.size 0 D) [] 5 rfl HMX.out ⟨HR.out _ (Below.refl _ w6).drew, HR0.out _ (Below.refl _ w6).drew⟩ (fun hU => ?_)
    refine AnyS.takeS (i := 0) rfl (by kernel_rfl) (by kernel_rfl) (by kernel_rfl) (by rfl) (by kernel_rfl) (by kernel_rfl) (fun _ _ _ h => h) (by rfl) (fun W hW => run_load_desk Try.underlying46 rfl hi4.out (.tmp 5) rfl rfl hW.1) hU (fun hU => ?_)
    try simp only [Act.put, List.setIfInBounds_toArray, List.set_cons_zero, List.set_cons_succ]
    refine AnyS.takeS (i := 1) rfl (by kernel_rfl) (by kernel_rfl) (by kernel_rfl) (by rfl) (by kernel_rfl) (by kernel_rfl) (fun _ _ _ h => h) (by rfl) (fun W hW => run_load_desk Try.underlying41 rfl hi.out (.tmp 1) rfl rfl hW.2) hU (fun hU => ?_)
    try simp only [Act.put, List.setIfInBounds_toArray, List.set_cons_zero, List.set_cons_succ]
    refine AnyS.branch (rs := [2]) (by kernel_rfl) (by simp) (AllS.cons rfl (fun K hK => ?_) AllS.nil)
    go_simp
    refine (HTD.out _ hbb6.drew (by omega) (by omega)).mono ?_
    rintro e w7 ⟨u7, v7, rfl, hb7, hu7, hv7⟩
    have HU7 := Lib.hid hu7.sl
    have HV7 := Lib.hid hv7.sl
    have hbd : Below w6.heap.size w6 w7 := (Below.refl _ w6).drew.trans hb7
    have HU7' := Lib.hid (HU6.out.below hbd)
    have HV7' := Lib.hid (HV6.out.below hbd)
    refine hK.out _ _ (.inl ⟨HR.out _ hbd, HR0.out _ hbd⟩) (fun hU => ?_)
    clear hK K hu7 hv7
    try simp only [Act.put, List.setIfInBounds_toArray, List.set_cons_zero, List.set_cons_succ]
    refine AnyS.branch (rs := [3]) (by kernel_rfl) (by simp) (AllS.cons rfl (fun K hK => ?_) AllS.nil)
    go_simp
    refine (HEQH.out _ u7 v7 HU7'.out HV7'.out HU7.out HV7.out).mono ?_
    rintro e w8 ⟨rfl, hb8⟩
    have hbd8 : Below w6.heap.size w6 w8 := hbd.trans (hb8.mono hbd.size)
    refine hK.out _ _ (.inl ⟨HR.out _ hbd8, HR0.out _ hbd8⟩) (fun hU => ?_)
    clear hK K
    try simp only [Act.put, List.setIfInBounds_toArray, List.set_cons_zero, List.set_cons_succ]
    refine AnyS.branch (rs := [4]) (by kernel_rfl) (by simp) (AllS.cons rfl (fun K hK => ?_) AllS.nil)
    go_simp
    refine hK.out _ _ (.inl ⟨HR.out _ hbd8, HR0.out _ hbd8⟩) (fun hU => ?_)
    clear hK K
    refine AnyS.done (by kernel_rfl) ?_ _
    have hbb8 := hbb6.trans (hbd8.mono hbb6.size)
    go_wp2_with fail
    go_ret
    exact ⟨rfl, hbb8⟩

set_option maxRecDepth 100000 in
theorem lawIsDesk_lifted (os : Os) (started : os.Started) (H : Type) (enc : TypeId × Value → H) :
    ReturnsInHanded {} Try.checked os 7 .any (Rows.fnExactIsDeskSpec.pre6 enc Try.prog Try.f7 Rows.fnExactIsDeskRow.domain false) (Rows.fnExactIsDeskSpec.post enc Try.prog Try.f7 false true false false) := by
  refine returnsInHanded_of_change (C := Try.checked) Try.own started (by kernel_rfl) Try.func7
    (ChangeSpec.witness6 (enc := enc) (C := Try.checked) false ⟨#[], #[.agg ((Value.int .i64 0 :: Value.int .i64 0 :: (List.replicate 96 (Value.int .u8 0) ++ [.slice none 0 0, .slice none 0 0])).toArray)], []⟩ 8 (by kernel_rfl) (by kernel_rfl) (by kernel_rfl) (by kernel_rfl)) ?_
  intro W base args ds gs before hval0 hW _ _
  have hval : ∀ (j : Nat) t v, Try.f7.params[j]? = some t → args[j]? = some v → Value.okWide Try.prog W .any base t v := hval0
  have hW' := hW
  obtain ⟨p, q, hA0, hV, rfl, _, _⟩ := hW
  have hA : DataW.TrodAll enc Try.prog W 0 (fun _ => true) true Try.f7.params.toList args.toList ds p := hA0
  rw [Try.params7] at hA hval
  obtain ⟨v0, d0, rfl, rfl, h0⟩ := trodAll_one hA
  obtain ⟨rfl, rfl⟩ := trodVars_none hV
  obtain ⟨m, a, b, xs, ys, hwf, rfl, sx, sy, lx, ly⟩ := open_desk (hval 0 41 v0 rfl rfl) h0
  refine (lawIsDesk_walk m hwf a b xs ys lx ly W sx sy).mono fun e W' ⟨he, hb⟩ => ⟨_, he, ?_⟩
  exact law_post Try.laidOut (by kernel_rfl) hW' rfl rfl rfl rfl hb rfl Try.underlying4

theorem isDesk_holds : Rows.FnExactIsDeskSaid :=
  OpenClaim.holds_of_wide 7 Try.f7 rfl rfl rfl rfl rfl rfl rfl ⟨rfl, rfl, rfl, rfl, rfl⟩ rfl rfl rfl rfl rfl (by kernel_rfl) Try.func7 (by kernel_rfl)
    (of_decide_eq_true (by kernel_rfl)) (by unfold Func.isWrapper; first | (rw [if_pos (by decide +kernel)]; kernel_rfl) | (rw [if_neg (by decide +kernel)]; exact ⟨rfl, rfl⟩))
    (fun os started H enc _ => lawIsDesk_lifted os started H enc)
#print axioms isDesk_holds
end Go.Proofs.Ytmacnofkpdikiaa
