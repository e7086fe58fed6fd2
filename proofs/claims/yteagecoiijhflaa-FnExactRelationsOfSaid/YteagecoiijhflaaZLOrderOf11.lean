import Derived.Test.YteagecoiijhflaaZLOrderOf01
import Derived.Test.YteagecoiijhflaaZLOrderOf10
import Derived.Test.YteagecoiijhflaaZLOrderOf07
import Derived.Test.YteagecoiijhflaaZLOrderOf08
/- A region in drawn order by what holds at each set of operations that are done. -/
namespace Go.Proofs.Yteagecoiijhflaa
open Go.RowKit
set_option linter.unusedVariables false
set_option linter.unusedSimpArgs false
section
variable {P : Program} {ops : Array Oper} {Q : Exit → Act → World → Prop} {md : Region.Mode} {S : World → Prop} {L : List Nat}
/-- how many operations are left -/
def leftN (n : Nat) (listed : Array Bool) : Nat := ((List.range n).filter fun i => !listed.getD i true).length
theorem filter_drop {α : Type} {p q : α → Bool} : ∀ {l : List α}, (∀ x ∈ l, q x = true → p x = true) → (∃ x ∈ l, p x = true ∧ q x = false) → (l.filter q).length < (l.filter p).length
  | [], _, ⟨x, hx, _⟩ => by cases hx
  | y :: l, h, ⟨x, hx, hp, hq⟩ => by
    have hle : ∀ l : List α, (∀ x ∈ l, q x = true → p x = true) → (l.filter q).length ≤ (l.filter p).length := by
      intro l
      induction l with
      | nil => intro _; simp
      | cons z l ih =>
        intro h
        have := ih (fun x hx => h x (List.mem_cons_of_mem _ hx))
        have hz := h z (List.mem_cons_self ..)
        simp only [List.filter_cons]
        cases h1 : q z
        · cases h2 : p z <;> simp <;> omega
        · rw [hz h1]; simp; omega
    rcases List.mem_cons.1 hx with e | hx
    · subst e
      simp only [List.filter_cons, hp, hq, if_true, Bool.false_eq_true, if_false, List.length_cons]
      have := hle l (fun x hx => h x (List.mem_cons_of_mem _ hx))
      omega
    · have := filter_drop (fun x hx => h x (List.mem_cons_of_mem _ hx)) ⟨x, hx, hp, hq⟩
      have hy := h y (List.mem_cons_self ..)
      simp only [List.filter_cons]
      cases h1 : q y
      · cases h2 : p y <;> simp <;> omega
      · rw [hy h1]; simp; omega
theorem leftN_lt {listed : Array Bool} {i : Nat} (hi : i ∈ Region.ready md ops listed) : leftN ops.size (listed.setIfInBounds i true) < leftN ops.size listed := by
  obtain ⟨h0, o, ho, _⟩ := mem_ready.1 hi
  have hlt : i < ops.size := (Array.getElem?_eq_some_iff.1 ho).1
  refine filter_drop (fun x _ hx => ?_) ⟨i, by simpa using hlt, by simp [h0], ?_⟩
  · by_cases e : i = x
    · subst e; rw [h0]; rfl
    · rw [getD_set_ne true e] at hx; exact hx
  · have hs : i < listed.size := by
      rcases Nat.lt_or_ge i listed.size with h | h
      · exact h
      · simp [Array.getElem?_eq_none h] at h0
    simp [Array.getD, hs]
theorem AnyS.inv (Inv : Array Bool → Act → World → Prop) (hS : ∀ l a w, Inv l a w → S w)
    (h : ∀ l a w, Inv l a w → (∀ n, leftN ops.size l ≤ n → AnyS P md ops Q S L n l a w) ∨
      (Region.ready md ops l ≠ [] ∧ ∀ i ∈ Region.ready md ops l, wpOp P ops Q i (fun a' w' => Inv (l.setIfInBounds i true) a' w') a w)) :
    ∀ (n : Nat) (l : Array Bool) (a : Act) (w : World), Inv l a w → leftN ops.size l ≤ n → AnyS P md ops Q S L n l a w := by
  intro n
  induction n with
  | zero =>
    intro l a w hi hn
    rcases h l a w hi with h | ⟨hne, _⟩
    · exact h 0 hn
    · exfalso
      obtain ⟨i, hi⟩ := List.exists_mem_of_ne_nil _ hne
      have := leftN_lt hi
      omega
  | succ n ih =>
    intro l a w hi hn
    rcases h l a w hi with h | ⟨hne, hst⟩
    · exact h _ hn
    · refine ⟨fun e => absurd e hne, fun i hi => wpOp_mono (fun a' w' h' => ⟨.inl (hS _ _ _ h'), ih _ _ _ h' (by have := leftN_lt hi; omega)⟩) (hst i hi)⟩
end
end Go.Proofs.Yteagecoiijhflaa

/- The reference's group words: l02State, l02Normal, l02Step, l02Led, l02Like, l02Find. -/
namespace Go.Proofs.Yteagecoiijhflaa
open Go.RowKit
set_option linter.unusedVariables false
set_option linter.unusedSimpArgs false

theorem l02State_any (k : Int) (h0 : k ≠ 0) (h1 : -100 ≤ k) (h2 : k ≤ 100) (w : World) :
    Calls Try.prog 123 #[.int .i64 k] w fun e w' => e = .returned (.int .i64 (stN k : Int)) ∧ w = w' := by
  by_cases hs : 0 < k
  · have e1 : (stN k : Int) = k - 1 := by simp only [stN]; omega
    rw [e1]
    clear e1
    go_enter Try.func123, Try.ntmps123
    go_wp2_with fail
    go_ret
    exact ⟨rfl, rfl⟩
  · have e1 : (stN k : Int) = -k - 1 := by simp only [stN]; omega
    rw [e1]
    have h3 : k < 0 := by omega
    clear e1 h0 hs
    go_enter Try.func123, Try.ntmps123
    go_wp2_with fail
    go_ret
    exact ⟨rfl, rfl⟩

set_option maxRecDepth 100000 in
set_option maxHeartbeats 1000000 in
theorem l02Step_any (m : Mch) (hwf : m.Wf) (hok : m.Ok) (k : Int) (hk : k ≠ 0 ∧ -(m.s : Int) ≤ k ∧ k ≤ m.s) (x : Nat) (hx : x < m.l) (w : World) :
    Calls Try.prog 122 #[.agg m.cells.toArray, .agg (invM m).cells.toArray, .int .i64 k, .int .u8 (x : Int)] w (Ret (.tuple #[.int .u8 (stpX m k x), .int .i64 (stpK m k x)]) w) := by
  have h16 := hok.s_le
  have h3 := hok.l_le
  have hq := stN_lt hk
  have hwi := invM_wf hok hwf
  have hoi := invM_ok hok hwf
  have hm := (MAt.boxed w m 29).alloc (by simp) (.cells (invM m).cells.toArray 29)
  have hi := MAt.boxed (w.alloc (.cells m.cells.toArray 29)) (invM m) 29
  rw [show (w.alloc (.cells m.cells.toArray 29)).heap.size = w.heap.size + 1 by simp] at hi
  have hb0 := (boxedBelow w m.cells.toArray 29).alloc (by simp) (.cells (invM m).cells.toArray 29)
  have a1 := hm.nn hwf (q := stN k) (x := x) (by omega) (by omega)
  have a2 := hm.oo hwf (q := stN k) (x := x) (by omega) (by omega)
  have a3 := hi.nn hwi (q := stN k) (x := x) (by omega) (by omega)
  have a4 := hi.oo hwi (q := stN k) (x := x) (by omega) (by omega)
  rw [hok.n_eq hwf hq hx] at a1
  rw [hok.o_eq hwf hq hx] at a2
  rw [hoi.n_eq hwi hq hx, invM_nn hok hq hx] at a3
  rw [hoi.o_eq hwi hq hx, invM_on hok hq hx] at a4
  have b1 := hok.nn_lt hwf hq hx
  have b2 := hok.on_lt hwf hq hx
  have b3 := (invX_spec hok hwf hq hx).1
  have b4 := hok.nn_lt hwf hq b3
  have HST := Lib.hid (fun w => l02State_any k hk.1 (by omega) (by omega) w)
  by_cases h0 : 0 < k
  · have HX : Hid (stpX m k x = m.on (stN k) x) := by show _ = _; rw [stpX, if_pos h0]
    have HK : Hid (stpK m k x = (m.nn (stN k) x : Int) + 1) := by show _ = _; rw [stpK, if_pos h0]
    rw [HX.out, HK.out]
    have e2 : IntKind.i64.wrap ((m.nn (stN k) x : Int) + 1) = (m.nn (stN k) x : Int) + 1 := by rw [IntWalk.i64_in _ (by omega)]
    clear HX HK hm hi a3 a4 b3 b4 hk
    go_enter Try.func122, Try.ntmps122
    generalize stN k = q at *
    generalize m.on q x = Y at *
    generalize m.nn q x = Z at *
    have i1 : (0 : Int) ≤ (q : Int) := by omega
    have i2 : (q : Int) < 16 := by omega
    have i3 : (0 : Int) ≤ (x : Int) := by omega
    have i4 : (x : Int) < 3 := by omega
    have i5 : (0 : Int) ≤ (Z : Int) := by omega
    have i6 : (Z : Int) ≤ 16 := by omega
    go_wp2_with (go_at_call 123; refine (HST.out _).mono ?_; rintro e w' ⟨rfl, rfl⟩)
    go_quiet (fail)
    go_wp2_with fail
    go_ret2
    exact ⟨rfl, below_dN hb0 _⟩
  · have HX : Hid (stpX m k x = invX m (stN k) x) := by show _ = _; rw [stpX, if_neg h0]
    have HK : Hid (stpK m k x = -((m.nn (stN k) (invX m (stN k) x) : Int) + 1)) := by show _ = _; rw [stpK, if_neg h0]; omega
    rw [HX.out]
    obtain ⟨R, hR⟩ : ∃ R, R = stpK m k x := ⟨_, rfl⟩
    rw [← hR]
    have HR : Hid (R = -((m.nn (stN k) (invX m (stN k) x) : Int) + 1)) := by show _ = _; rw [hR, HK.out]
    have e2 : IntKind.i64.wrap ((m.nn (stN k) (invX m (stN k) x) : Int) + 1) = (m.nn (stN k) (invX m (stN k) x) : Int) + 1 := by rw [IntWalk.i64_in _ (by omega)]
    have e3 : IntKind.i64.wrap (-((m.nn (stN k) (invX m (stN k) x) : Int) + 1)) = -((m.nn (stN k) (invX m (stN k) x) : Int) + 1) := by rw [IntWalk.i64_in _ (by omega)]
    have hneg : k = -((stN k : Int) + 1) := by simp only [stN]; omega
    obtain ⟨WD, hWD⟩ : ∃ WD, WD = (w.alloc (.cells m.cells.toArray 29)).alloc (.cells (invM m).cells.toArray 29) := ⟨_, rfl⟩
    rw [← hWD] at a3 a4 hb0
    have HWD := Lib.hid hWD
    clear HX HK hm hi a1 a2 b1 b2 hk e2 e3 hWD hR
    go_enter Try.func122, Try.ntmps122
    generalize stN k = q at *
    subst hneg
    generalize invX m q x = Y at *
    generalize m.nn q Y = Z at *
    have i1 : (0 : Int) ≤ (q : Int) := by omega
    have i2 : (q : Int) < 16 := by omega
    have i3 : (0 : Int) ≤ (x : Int) := by omega
    have i4 : (x : Int) < 3 := by omega
    have i5 : (0 : Int) ≤ (Z : Int) := by omega
    have i6 : (Z : Int) ≤ 16 := by omega
    go_wp2_with fail
    refine (HST.out _).mono ?_
    rintro e w' ⟨rfl, rfl⟩
    rw [← HWD.out]
    go_wp2_with fail
    have e2 : IntKind.i64.wrap ((Z : Int) + 1) = (Z : Int) + 1 := by rw [IntWalk.i64_in _ (by omega)]
    have e3 : IntKind.i64.wrap (-((Z : Int) + 1)) = -((Z : Int) + 1) := by rw [IntWalk.i64_in _ (by omega)]
    go_quiet (fail)
    clear e2 e3
    go_wp2_with fail
    go_ret2
    rw [HR.out]
    exact ⟨rfl, below_dN hb0 _⟩

set_option maxRecDepth 100000 in
set_option maxHeartbeats 4000000 in
theorem l02Led_any (m : Mch) (hwf : m.Wf) (hok : m.Ok) (a : Option Addr) (g : Wd) (c : Nat) (hg : GW m g) (hl : g.length ≤ 1000) (x : Nat) (hx : x < m.l) (w : World) (hI : IntsAt w a g) :
    Calls Try.prog 86 #[.agg m.cells.toArray, .agg (invM m).cells.toArray, .slice a g.length c, .int .u8 (x : Int)] w fun e w' => ∃ v, e = .returned (.tuple #[.int .u8 (ledX m g x : Int), v]) ∧ Below w.heap.size w w' ∧ OwnI w' w.heap.size v (ledS m g x) := by
  obtain ⟨i0, hi, hz0, hz1, hz2⟩ := info_parts Try.info2
  have hwi := invM_wf hok hwf
  have HI := Lib.hid hI
  have HGW := Lib.hid hg
  have hM0 := (((Mm.start w).alloc m.cells.toArray 29).alloc (invM m).cells.toArray 29).alloc #[] 2
  rw [show (w.alloc (.cells m.cells.toArray 29)).heap.size = w.heap.size + 1 by simp, show ((w.alloc (.cells m.cells.toArray 29)).alloc (.cells (invM m).cells.toArray 29)).heap.size = w.heap.size + 1 + 1 by simp] at hM0
  have hM1 := hM0.addOwn (b := w.heap.size + 1 + 1) (cs := []) (T := 2) (by simp) 0 rfl (by omega)
  have HM1 : Hid (Mm w.heap.size w (((w.alloc (.cells m.cells.toArray 29)).alloc (.cells (invM m).cells.toArray 29)).alloc (.cells #[] 2)) [(w.heap.size + 1, (invM m).cells, 29), (w.heap.size, m.cells, 29)] [(.slice (some ⟨w.heap.size + 1 + 1, 0, none⟩) 0 0, 2, i64s (ledS m (g.take 0) x))]) := by
    have hne : (w.heap.size != w.heap.size + 1 + 1) = true := by simp; omega
    have hne2 : (w.heap.size + 1 != w.heap.size + 1 + 1) = true := by simp
    simp only [List.filter_cons, List.filter_nil, hne, hne2, bne_self_eq_false, Bool.false_eq_true, if_false, if_true] at hM1
    show Mm _ _ _ _ _; simpa [ledS, i64s] using hM1
  have HIM := Lib.hid (mach_info hwf)
  have HII := Lib.hid (mach_info hwi)
  have hmx : Try.prog.follows .mixedOrders = true := by kernel_rfl
  have HMX := Lib.hid hmx
  clear hI hg hM0 hM1 hmx
  go_enter Try.func86, Try.ntmps86
  go_wp2_with fail
  go_loopw [3, 10, 11] (fun y v i wr => ∃ j : Nat, j ≤ g.length ∧ i = .int .i64 j ∧ y = .int .u8 (ledX m (g.take j) x : Int) ∧ Mm w.heap.size w wr [(w.heap.size + 1, (invM m).cells, 29), (w.heap.size, m.cells, 29)] [(v, 2, i64s (ledS m (g.take j) x))]) (fun _ _ i _ => g.length - (intOf i).toNat)
  case atStart => exact ⟨0, Nat.zero_le _, rfl, rfl, HM1.out⟩
  case round =>
    clear HM1
    obtain ⟨j, hj, rfl, rfl, hM⟩ := hrel
    by_cases hlt : j < g.length
    · obtain ⟨b, off, rfl, e1⟩ := HI.out j hlt
      have hk := HGW.out.at hlt
      have hy : ledX m (g.take j) x < m.l := ledX_lt hok hwf (HGW.out.sub fun k hk => List.mem_of_mem_take hk) hx
      have HX := Lib.hid (ledX_take m g x j hlt)
      have HSS : Hid (ledS m (g.take (j + 1)) x = ledS m (g.take j) x ++ [stpK m (g[j]?.getD 0) (ledX m (g.take j) x)]) := by
        show _ = _; rw [take_snocI hlt, ledS_append]; rfl
      have hsl : (ledS m (g.take j) x).length ≤ 1000 := by rw [ledS_len, List.length_take]; omega
      have HSL := Lib.hid hsl
      have HST := Lib.hid (fun W => l02Step_any m hwf hok (g[j]?.getD 0) hk (ledX m (g.take j) x) hy W)
      have HSM : Hid (∀ W, Below w.heap.size w W → MAt W w.heap.size 0 m → MAt W (w.heap.size + 1) 0 (invM m) → MAt W w.heap.size 0 m ∧ MAt W (w.heap.size + 1) 0 (invM m) ∧ W.cell? ⟨b, off + j, none⟩ = some (.int .i64 (g[j]?.getD 0))) := fun W hW h1 h2 =>
        ⟨h1, h2, (hW.cell (World.block_lt_of_cell? w _ e1)).trans e1⟩
      have i1 : (0 : Int) ≤ (j : Int) := by omega
      have i2 : (j : Int) < (g.length : Int) := by omega
      clear e1 hk hy hsl
      generalize ledX m (g.take j) x = y at *
      obtain ⟨o, ho⟩ : ∃ o, o = ledS m (g.take j) x := ⟨_, rfl⟩
      rw [← ho] at hM HSS HSL
      generalize g[j]?.getD 0 = k at *
      clear ho
      go_wp2_with fail
      have hMd := hM.drew
      refine region_S (fun W => MAt W w.heap.size 0 m ∧ MAt W (w.heap.size + 1) 0 (invM m) ∧ W.cell? ⟨b, off + j, none⟩ = some (.int .i64 k)) [] 13 rfl HMX.out (HSM.out _ hMd.below (hMd.mach 1 rfl) (hMd.mach 0 rfl)) (fun hU => ?_)
      obtain ⟨W, hW⟩ : ∃ W, W = wr.drew := ⟨_, rfl⟩
      rw [← hW] at hU hMd ⊢
      clear hW hM
      (refine AnyS.takeS (i := 0) rfl (by kernel_rfl) (by kernel_rfl) (by kernel_rfl) (by rfl) (by kernel_rfl) (by kernel_rfl) (fun _ _ _ h => h) (by rfl) (fun W hW => run_ld Try.underlying29 rfl HIM.out (.tmp 4) rfl rfl hW.1) hU (fun hU => ?_); (try simp only [Act.put, List.setIfInBounds_toArray, List.set_cons_zero, List.set_cons_succ]))
      (refine AnyS.takeS (i := 1) rfl (by kernel_rfl) (by kernel_rfl) (by kernel_rfl) (by rfl) (by kernel_rfl) (by kernel_rfl) (fun _ _ _ h => h) (by rfl) (fun W hW => run_ld Try.underlying29 rfl HII.out (.tmp 5) rfl rfl hW.2.1) hU (fun hU => ?_); (try simp only [Act.put, List.setIfInBounds_toArray, List.set_cons_zero, List.set_cons_succ]))
      (refine AnyS.take (i := 2) rfl (by kernel_rfl) (by kernel_rfl) (by kernel_rfl) (by rfl) (fun _ _ _ h => h) (by rfl) (by intro w; go_simp; with_reducible rfl) hU (fun hU => ?_); (try simp only [Act.put, List.setIfInBounds_toArray, List.set_cons_zero, List.set_cons_succ]); refine AnyS.take (i := 3) rfl (by kernel_rfl) (by kernel_rfl) (by kernel_rfl) (by rfl) (fun _ _ _ h => h) (by rfl) (by intro w; go_simp; with_reducible rfl) hU (fun hU => ?_); (try simp only [Act.put, List.setIfInBounds_toArray, List.set_cons_zero, List.set_cons_succ]); refine AnyS.take (i := 4) rfl (by kernel_rfl) (by kernel_rfl) (by kernel_rfl) (by rfl) (fun _ _ _ h => h) (by rfl) (by intro w; go_simp; with_reducible rfl) hU (fun hU => ?_); (try simp only [Act.put, List.setIfInBounds_toArray, List.set_cons_zero, List.set_cons_succ]))
      (refine AnyS.takeS (i := 5) rfl (by kernel_rfl) (by kernel_rfl) (by kernel_rfl) (by rfl) (by kernel_rfl) (by kernel_rfl) (fun _ _ _ h => h) (by rfl) (by intro W hSw; have h1 := hSw.2.2; clear hSw; go_simp; with_reducible rfl) hU (fun hU => ?_); (try simp only [Act.put, List.setIfInBounds_toArray, List.set_cons_zero, List.set_cons_succ]))
      (refine AnyS.take (i := 6) rfl (by kernel_rfl) (by kernel_rfl) (by kernel_rfl) (by rfl) (fun _ _ _ h => h) (by rfl) (by intro w; go_simp; with_reducible rfl) hU (fun hU => ?_); (try simp only [Act.put, List.setIfInBounds_toArray, List.set_cons_zero, List.set_cons_succ]))
      refine AnyS.branch (rs := [7]) (by kernel_rfl) (by simp) (AllS.cons rfl (fun K hK => ?_) AllS.nil)
      go_simp
      refine (HST.out _).mono ?_
      rintro e w4 ⟨rfl, hb4⟩
      have hM4 := hMd.call hb4
      refine hK.out _ _ (.inl (HSM.out _ hM4.below (hM4.mach 1 rfl) (hM4.mach 0 rfl))) (fun hU => ?_)
      clear hK K hMd
      (try simp only [Act.put, List.setIfInBounds_toArray, List.set_cons_zero, List.set_cons_succ])
      (refine AnyS.take (i := 8) rfl (by kernel_rfl) (by kernel_rfl) (by kernel_rfl) (by rfl) (fun _ _ _ h => h) (by rfl) (by intro w; go_simp; with_reducible rfl) hU (fun hU => ?_); (try simp only [Act.put, List.setIfInBounds_toArray, List.set_cons_zero, List.set_cons_succ]); refine AnyS.take (i := 9) rfl (by kernel_rfl) (by kernel_rfl) (by kernel_rfl) (by rfl) (fun _ _ _ h => h) (by rfl) (by intro w; go_simp; with_reducible rfl) hU (fun hU => ?_); (try simp only [Act.put, List.setIfInBounds_toArray, List.set_cons_zero, List.set_cons_succ]); refine AnyS.take (i := 10) rfl (by kernel_rfl) (by kernel_rfl) (by kernel_rfl) (by rfl) (fun _ _ _ h => h) (by rfl) (by intro w; go_simp; with_reducible rfl) hU (fun hU => ?_); (try simp only [Act.put, List.setIfInBounds_toArray, List.set_cons_zero, List.set_cons_succ]); refine AnyS.take (i := 11) rfl (by kernel_rfl) (by kernel_rfl) (by kernel_rfl) (by rfl) (fun _ _ _ h => h) (by rfl) (by intro w; go_simp; with_reducible rfl) hU (fun hU => ?_); (try simp only [Act.put, List.setIfInBounds_toArray, List.set_cons_zero, List.set_cons_succ]); refine AnyS.take (i := 12) rfl (by kernel_rfl) (by kernel_rfl) (by kernel_rfl) (by rfl) (fun _ _ _ h => h) (by rfl) (by intro w; go_simp; with_reducible rfl) hU (fun hU => ?_); (try simp only [Act.put, List.setIfInBounds_toArray, List.set_cons_zero, List.set_cons_succ]))
      refine AnyS.done (by kernel_rfl) ?_ _
      have hol : (i64s o).length ≤ 1000000 := by have := HSL.out; simp [i64s]; omega
      have HM4 := Lib.hid hM4
      clear hU hM4
      go_wp2_with (at_builtin; refine Mm.append rfl (.tmp 33) (.tmp 35) 26 rfl HM4.out 0 rfl Try.underlying26 hi hz0 hz1 hz2 rfl rfl rfl rfl hol (by omega) ?_)
      intro g' cap' w5 hM5
      have HM5 : Hid (Mm w.heap.size w w5 [(w.heap.size + 1, (invM m).cells, 29), (w.heap.size, m.cells, 29)] [(.slice (some ⟨g', 0, none⟩) ((i64s o).length + 1) cap', 2, i64s (ledS m (g.take (j + 1)) x))]) := by
        rw [HSS.out]; show Mm _ _ _ _ _; simpa [i64s] using hM5
      clear HM4 hM5
      go_wp2_with fail
      go_roundw
      case rel => exact ⟨j + 1, by omega, by go_num, by rw [HX.out], HM5.out⟩
      case measure => simp [intOf] <;> omega
    · have hj' : j = g.length := by omega
      subst hj'
      rw [List.take_length] at hM ⊢
      have ho : Hid (OwnI wr w.heap.size u10 (ledS m g x)) := OwnI.of_row (hM.own _ (List.mem_cons_self ..))
      have hb := hM.below
      clear hM
      go_wp2_with fail
      go_ret2
      exact ⟨_, rfl, hb, ho.out⟩
end Go.Proofs.Yteagecoiijhflaa

/- The reference's group words: l02Normal, l02Like, l02Find, l02Code. -/
namespace Go.Proofs.Yteagecoiijhflaa
open Go.RowKit
set_option linter.unusedVariables false
set_option linter.unusedSimpArgs false

/-- the classes and the trivial states of a machine as values -/
def clsV (m : Mch) : List Value := nvs 16 (fun q => if q < m.s then m.tbl.fin q else 0)
def trvV (m : Mch) : List Value := bls (trivB m)

set_option maxRecDepth 100000 in
set_option maxHeartbeats 4000000 in
theorem l02Normal_any (m : Mch) (hok : m.Ok) (a : Option Addr) (g : Wd) (c : Nat) (hg : GW m g) (hl : g.length ≤ 1000) (w : World) (hI : IntsAt w a g) :
    Calls Try.prog 87 #[.slice a g.length c, .agg (clsV m).toArray, .agg (trvV m).toArray] w fun e w' => ∃ v, e = .returned v ∧ Below w.heap.size w w' ∧ OwnI w' w.heap.size v (nrm m g) := by
  obtain ⟨i0, hi, hz0, hz1, hz2⟩ := info_parts Try.info2
  have h16 := hok.s_le
  have HI := Lib.hid hI
  have HGW := Lib.hid hg
  have hM0 := (((Mm.start w).alloc (clsV m).toArray 64).alloc (trvV m).toArray 65).alloc #[] 2
  rw [show (w.alloc (.cells (clsV m).toArray 64)).heap.size = w.heap.size + 1 by simp, show ((w.alloc (.cells (clsV m).toArray 64)).alloc (.cells (trvV m).toArray 65)).heap.size = w.heap.size + 1 + 1 by simp] at hM0
  have hM1 := hM0.addOwn (b := w.heap.size + 1 + 1) (cs := []) (T := 2) (by simp) 0 rfl (by omega)
  have HM1 : Hid (Mm w.heap.size w (((w.alloc (.cells (clsV m).toArray 64)).alloc (.cells (trvV m).toArray 65)).alloc (.cells #[] 2)) [(w.heap.size + 1, trvV m, 65), (w.heap.size, clsV m, 64)] [(.slice (some ⟨w.heap.size + 1 + 1, 0, none⟩) 0 0, 2, i64s (nrm m (g.take 0)))]) := by
    have hne : (w.heap.size != w.heap.size + 1 + 1) = true := by simp; omega
    have hne2 : (w.heap.size + 1 != w.heap.size + 1 + 1) = true := by simp
    simp only [List.filter_cons, List.filter_nil, hne, hne2, bne_self_eq_false, Bool.false_eq_true, if_false, if_true] at hM1
    show Mm _ _ _ _ _; simpa [nrm, i64s] using hM1
  have HCL : Hid (∀ q, q < m.s → (clsV m)[q]? = some (.int .i64 (m.tbl.fin q : Int))) := fun q hq => by
    rw [clsV, nvs_get _ (by omega), if_pos hq]
  have HTR : Hid (∀ q, q < m.s → (trvV m)[q]? = some (.bool (trivB m q))) := fun q hq => by
    rw [trvV, bls_get _ (by omega)]
  clear hI hg hM0 hM1
  generalize clsV m = CV at *
  generalize trvV m = TV at *
  go_enter Try.func87, Try.ntmps87
  go_wp2_with fail
  go_loopw [7, 8] (fun v i wr => ∃ j : Nat, j ≤ g.length ∧ i = .int .i64 j ∧ Mm w.heap.size w wr [(w.heap.size + 1, TV, 65), (w.heap.size, CV, 64)] [(v, 2, i64s (nrm m (g.take j)))]) (fun _ i _ => g.length - (intOf i).toNat)
  case atStart => exact ⟨0, Nat.zero_le _, rfl, HM1.out⟩
  case round =>
    clear HM1
    obtain ⟨j, hj, rfl, hM⟩ := hrel
    by_cases hlt : j < g.length
    · obtain ⟨b, off, rfl, e1⟩ := HI.out j hlt
      have e1 := (hM.below.cell (World.block_lt_of_cell? w _ e1)).trans e1
      have hk := HGW.out.at hlt
      have hq := stN_lt hk
      have e3 := (hM.at 1 rfl).cell' (HCL.out _ hq)
      have e5 := (hM.at 0 rfl).cell' (HTR.out _ hq)
      have HN := Lib.hid (nrm_snoc m (g.take j) (g[j]?.getD 0))
      rw [← take_snocI hlt, nstep] at HN
      have hsg : (g[j]?.getD 0 = (stN (g[j]?.getD 0) : Int) + 1 ∧ nkey m (g[j]?.getD 0) = (m.tbl.fin (stN (g[j]?.getD 0)) : Int) + 1) ∨ (g[j]?.getD 0 = -((stN (g[j]?.getD 0) : Int) + 1) ∧ nkey m (g[j]?.getD 0) = -((m.tbl.fin (stN (g[j]?.getD 0)) : Int) + 1)) := by
        simp only [nkey, stN]
        by_cases h : g[j]?.getD 0 < 0
        · rw [if_pos h]; right; exact ⟨by omega, rfl⟩
        · rw [if_neg h]; left; exact ⟨by omega, rfl⟩
      have HST := Lib.hid (l02State_any (g[j]?.getD 0) hk.1 (by omega) (by omega) wr)
      have hnl := nrm_len m (g.take j)
      rw [List.length_take] at hnl
      have hfl := m.tbl.fin_le (stN (g[j]?.getD 0))
      have i1 : (0 : Int) ≤ (j : Int) := by omega
      have i2 : (j : Int) < (g.length : Int) := by omega
      generalize stN (g[j]?.getD 0) = q at *
      generalize nkey m (g[j]?.getD 0) = nk at *
      generalize g[j]?.getD 0 = k at *
      generalize m.tbl.fin q = f at *
      obtain ⟨o, ho⟩ : ∃ o, o = nrm m (g.take j) := ⟨_, rfl⟩
      rw [← ho] at hM HN hnl
      have i3 : (0 : Int) ≤ (q : Int) := by omega
      have i4 : (q : Int) < 16 := by omega
      have i5 : (0 : Int) ≤ (f : Int) := by omega
      have i6 : (f : Int) ≤ 16 := by omega
      clear ho hk
      by_cases ht : trivB m q = true
      · rw [if_pos ht] at HN
        rw [ht] at e5
        clear ht
        rcases hsg with ⟨rfl, rfl⟩ | ⟨rfl, rfl⟩
        all_goals
          go_wp2_with (go_at_call 123; refine HST.out.mono ?_; rintro e w' ⟨rfl, rfl⟩)
          go_roundw
          case rel => exact ⟨j + 1, by omega, by go_num, by rw [HN.out]; exact hM⟩
          case measure => simp [intOf] <;> omega
      · rw [if_neg ht] at HN
        have ht' : trivB m q = false := by simpa using ht
        rw [ht'] at e5
        clear ht ht'
        by_cases hz : o = []
        · subst hz
          have HS : Hid (nrm m (g.take (j + 1)) = [nk]) := by show _ = _; rw [HN.out, if_neg (by simp)]; rfl
          have hO := hM.own _ (List.mem_cons_self ..)
          obtain ⟨av, cv, rfl⟩ : ∃ av cv, u7 = .slice av 0 cv := by
            rcases hO.2 with ⟨e, _⟩ | ⟨g', cap, cur, e, _⟩
            · exact ⟨_, _, e⟩
            · exact ⟨_, _, e⟩
          clear HN hO
          rcases hsg with ⟨rfl, rfl⟩ | ⟨rfl, rfl⟩
          all_goals
            go_wp2_with (first | (go_at_call 123; refine HST.out.mono ?_; rintro e w' ⟨rfl, rfl⟩) | (at_builtin; refine Mm.append rfl (.tmp 56) (.tmp 58) 26 rfl hM 0 rfl Try.underlying26 hi hz0 hz1 hz2 rfl rfl rfl rfl (by simp [i64s]) (by omega) ?_))
            intro g' cap' w3 hM3
            have HM3 : Hid (Mm w.heap.size w w3 [(w.heap.size + 1, TV, 65), (w.heap.size, CV, 64)] [(.slice (some ⟨g', 0, none⟩) ((i64s []).length + 1) cap', 2, i64s (nrm m (g.take (j + 1))))]) := by
              rw [HS.out]; show Mm _ _ _ _ _; simpa [i64s] using hM3
            clear hM hM3
            go_wp2_with fail
            go_roundw
            case rel => exact ⟨j + 1, by omega, by go_num, HM3.out⟩
            case measure => simp [intOf] <;> omega
        · obtain ⟨o', z, rfl⟩ : ∃ o' z, o = o' ++ [z] := ⟨o.dropLast, o.getLast hz, (List.dropLast_concat_getLast hz).symm⟩
          have hol : o'.length ≤ 1000 := by rw [List.length_append] at hnl; simp at hnl; omega
          have hO := hM.own _ (List.mem_cons_self ..)
          simp only at hO
          have hcap := own_cap hO
          obtain ⟨gv, cv, rfl, -, -, hcl⟩ := own_form hO (by simp [i64s])
          have hcap : o'.length ≤ cv := by have := hcap _ _ _ rfl; simp [i64s] at this; omega
          have hln : (i64s (o' ++ [z])).length = o'.length + 1 := by simp [i64s]
          rw [hln] at hM ⊢
          have e6 := hcl o'.length (.int .i64 z) (by simp [i64s])
          have hzb : (0 : Int) ≤ (o'.length : Int) := by omega
          clear hcl hO hz
          by_cases hc : z = -nk
          · have HS : Hid (nrm m (g.take (j + 1)) = o') := by show _ = _; rw [HN.out, if_pos (by simp [hc]), List.dropLast_concat]
            have hM2 := hM.cut (g := gv) (c := cv) (k := o'.length) (by rw [hln]) (by simp [i64s])
            have HM2 : Hid (Mm w.heap.size w wr [(w.heap.size + 1, TV, 65), (w.heap.size, CV, 64)] [(.slice (some ⟨gv, 0, none⟩) o'.length cv, 2, i64s (nrm m (g.take (j + 1))))]) := by
              rw [HS.out]; show Mm _ _ _ _ _; simpa [i64s] using hM2
            clear HN hM hM2 hln
            subst hc
            rcases hsg with ⟨rfl, rfl⟩ | ⟨rfl, rfl⟩
            all_goals
              go_wp2_with (go_at_call 123; refine HST.out.mono ?_; rintro e w' ⟨rfl, rfl⟩)
              go_roundw
              case rel => exact ⟨j + 1, by omega, by go_num, HM2.out⟩
              case measure => simp [intOf] <;> omega
          · have HS : Hid (nrm m (g.take (j + 1)) = (o' ++ [z]) ++ [nk]) := by show _ = _; rw [HN.out, if_neg (by simpa using hc)]
            have hc1 : (z == -nk) = false := by simpa using hc
            have hil : (i64s (o' ++ [z])).length ≤ 1000000 := by simp [i64s]; omega
            clear HN hln hc
            rcases hsg with ⟨rfl, rfl⟩ | ⟨rfl, rfl⟩
            all_goals
              try simp only [Int.neg_neg] at hc1
              go_wp2_with (first | (go_at_call 123; refine HST.out.mono ?_; rintro e w' ⟨rfl, rfl⟩) | (at_builtin; refine Mm.append rfl (.tmp 56) (.tmp 58) 26 rfl hM 0 rfl Try.underlying26 hi hz0 hz1 hz2 rfl rfl rfl rfl hil (by omega) ?_))
              intro g' cap' w3 hM3
              have HM3 : Hid (Mm w.heap.size w w3 [(w.heap.size + 1, TV, 65), (w.heap.size, CV, 64)] [(.slice (some ⟨g', 0, none⟩) ((i64s (o' ++ [z])).length + 1) cap', 2, i64s (nrm m (g.take (j + 1))))]) := by
                rw [HS.out]; show Mm _ _ _ _ _; simpa [i64s] using hM3
              clear hM hM3
              go_wp2_with fail
              go_roundw
              case rel => exact ⟨j + 1, by omega, by go_num, HM3.out⟩
              case measure => simp [intOf] <;> omega
    · have hj' : j = g.length := by omega
      subst hj'
      rw [List.take_length] at hM
      have ho : Hid (OwnI wr w.heap.size u7 (nrm m g)) := OwnI.of_row (hM.own _ (List.mem_cons_self ..))
      have hb := hM.below
      clear hM
      go_wp2_with fail
      go_ret
      exact ⟨_, rfl, hb, ho.out⟩

set_option maxHeartbeats 1000000 in
theorem l02Like_any (a b : Option Addr) (c d : Nat) (xs ys : Wd) (hx : xs.length ≤ 1000000) (w : World) (ha : IntsAt w a xs) (hb : IntsAt w b ys) :
    Calls Try.prog 130 #[.slice a xs.length c, .slice b ys.length d] w (RetQ (.bool (decide (xs = ys))) w) := by
  have HA := Lib.hid ha
  have HB := Lib.hid hb
  clear ha hb
  go_enter Try.func130, Try.ntmps130
  by_cases hl : xs.length = ys.length
  · have hle : ((xs.length : Int) == (ys.length : Int)) = true := by simp; omega
    have hln : ((xs.length : Int) != (ys.length : Int)) = false := by simp; omega
    go_wp2_with fail
    go_loopw [5] (fun i wr => ∃ k : Nat, k ≤ xs.length ∧ i = .int .i64 k ∧ Hid (∃ n, wr = w.drewN n) ∧ Hid (∀ j, j < k → xs[j]? = ys[j]?)) (fun i _ => xs.length - (intOf i).toNat)
    case atStart => exact ⟨0, Nat.zero_le _, rfl, ⟨0, rfl⟩, fun j hj => by omega⟩
    case round =>
      obtain ⟨k, hk, rfl, HW, HE⟩ := hrel
      by_cases hlt : k < xs.length
      · obtain ⟨g, off, rfl, hc⟩ := HA.out k hlt
        obtain ⟨g', off', rfl, hc'⟩ := HB.out k (by omega)
        have hcell : ∀ a, wr.cell? a = w.cell? a := fun a => by obtain ⟨n, hn⟩ := HW.out; rw [hn]; rfl
        rw [← hcell] at hc hc'
        clear hcell
        have i1 : (0 : Int) ≤ (k : Int) := by omega
        have i2 : (k : Int) < (xs.length : Int) := by omega
        have i3 : (k : Int) < (ys.length : Int) := by omega
        have i4 : k < ys.length := by omega
        obtain ⟨x, hx⟩ : ∃ x, x = xs[k]?.getD 0 := ⟨_, rfl⟩
        obtain ⟨y, hy⟩ : ∃ y, y = ys[k]?.getD 0 := ⟨_, rfl⟩
        rw [← hx] at hc
        rw [← hy] at hc'
        by_cases e : x = y
        · have HN : Hid (∀ j, j < k + 1 → xs[j]? = ys[j]?) := fun j hj => by
            by_cases h : j = k
            · subst h
              rw [List.getElem?_eq_getElem hlt, List.getElem?_eq_getElem i4] at *
              simp only [Option.getD_some] at hx hy
              rw [← hx, ← hy, e]
            · exact HE.out j (by omega)
          subst e
          clear hx hy
          go_wp2_with fail
          go_quiet (fail)
          go_wp2_with fail
          go_roundw
          case rel => exact ⟨k + 1, by omega, by go_num, by obtain ⟨n, hn⟩ := HW.out; rw [hn]; exact dN2 _ _ _, HN⟩
          case measure => simp [intOf] <;> omega
        · have H : Hid (decide (xs = ys) = false) := by
            show _ = _
            simp only [decide_eq_false_iff_not]; intro h; rw [h] at hx; exact e (hx.trans hy.symm)
          have e' : (x != y) = true := by simpa using e
          clear e hx hy
          go_wp2_with fail
          go_quiet (fail)
          go_wp2_with fail
          go_ret
          exact ⟨ret_bool H.out.symm, by obtain ⟨n, hn⟩ := HW.out; rw [hn]; exact dN2 _ _ _⟩
      · have H : Hid (decide (xs = ys) = true) := by
          show _ = _
          simp only [decide_eq_true_eq]
          apply List.ext_getElem?
          intro j
          by_cases hj : j < k
          · exact HE.out j hj
          · rw [List.getElem?_eq_none (by omega), List.getElem?_eq_none (by omega)]
        go_wp2_with fail
        go_ret
        exact ⟨ret_bool H.out.symm, HW.out⟩
  · have H : Hid (decide (xs = ys) = false) := by
      show _ = _
      simp only [decide_eq_false_iff_not]; intro e; rw [e] at hl; exact hl rfl
    have hle : ((xs.length : Int) == (ys.length : Int)) = false := by simp; omega
    have hln : ((xs.length : Int) != (ys.length : Int)) = true := by simp; omega
    clear hl
    go_wp2_with fail
    go_ret
    exact ⟨ret_bool H.out.symm, 0, rfl⟩

/-- the place of a word in a queue, or -1 -/
def plc (Q : List Wd) (s : Wd) : Int := if s ∈ Q then (Q.idxOf s : Int) else -1
theorem plc_hit {Q : List Wd} {s : Wd} {i : Nat} (hi : i < Q.length) (h : Q[i]?.getD [] = s) (hm : ∀ j, j < i → Q[j]?.getD [] ≠ s) : plc Q s = i := by
  rw [List.getElem?_eq_getElem hi, Option.getD_some] at h
  have hmem : s ∈ Q := by rw [← h]; exact List.getElem_mem hi
  rw [plc, if_pos hmem]
  have h1 := List.idxOf_lt_length_iff.2 hmem
  have h2 : Q[Q.idxOf s] = s := List.getElem_idxOf h1
  rcases Nat.lt_trichotomy (Q.idxOf s) i with c | c | c
  · exfalso
    have := hm _ c
    rw [List.getElem?_eq_getElem h1, Option.getD_some] at this
    exact this h2
  · rw [c]
  · exfalso
    have := List.not_of_lt_findIdx (p := (· == s)) (xs := Q) (i := i) (by simpa [List.idxOf] using c)
    simp [h] at this
theorem plc_none {Q : List Wd} {s : Wd} (h : ∀ j, j < Q.length → Q[j]?.getD [] ≠ s) : plc Q s = -1 := by
  rw [plc, if_neg]
  intro hm
  obtain ⟨i, hi, e⟩ := List.getElem_of_mem hm
  exact h i hi (by rw [List.getElem?_eq_getElem hi, Option.getD_some, e])

set_option maxRecDepth 100000 in
set_option maxHeartbeats 1000000 in
theorem l02Find_any (v : Value) (Q : List Wd) (a : Option Addr) (s : Wd) (c : Nat) (hQ : Q.length ≤ 1000) (hq : ∀ i : Nat, (Q[i]?.getD []).length ≤ 1000) (w : World) (hS : SlII w v Q) (hI : IntsAt w a s) :
    Calls Try.prog 99 #[v, .slice a s.length c] w (RetQ (.int .i64 (plc Q s)) w) := by
  obtain ⟨b, d, rfl, hc⟩ := hS
  have HC := Lib.hid hc
  have HI := Lib.hid hI
  have HQ := Lib.hid hq
  clear hc hI hq
  go_enter Try.func99, Try.ntmps99
  go_wp2_with fail
  go_loopw [5] (fun i wr => ∃ j : Nat, j ≤ Q.length ∧ i = .int .i64 j ∧ Hid (∃ n, wr = w.drewN n) ∧ Hid (∀ i, i < j → Q[i]?.getD [] ≠ s)) (fun i _ => Q.length - (intOf i).toNat)
  case atStart => exact ⟨0, Nat.zero_le _, rfl, ⟨0, rfl⟩, fun i h => by omega⟩
  case round =>
    obtain ⟨j, hj, rfl, HW, HE⟩ := hrel
    by_cases hlt : j < Q.length
    · obtain ⟨bb, off, rfl, a', c', e1, e2⟩ := HC.out j hlt
      have HL : Hid (Calls Try.prog 130 #[.slice a' (Q[j]?.getD []).length c', .slice a s.length c] wr (RetQ (.bool (decide (Q[j]?.getD [] = s))) wr)) := by
        obtain ⟨n, hn⟩ := HW.out
        rw [hn]
        exact l02Like_any a' a c' c _ s (by have := HQ.out j; omega) _ e2 HI.out
      have hcell : wr.cell? ⟨bb, off + j, none⟩ = w.cell? ⟨bb, off + j, none⟩ := by obtain ⟨n, hn⟩ := HW.out; rw [hn]; rfl
      rw [← hcell] at e1
      have i1 : (0 : Int) ≤ (j : Int) := by omega
      have i2 : (j : Int) < (Q.length : Int) := by omega
      have HP : Hid (Q[j]?.getD [] = s → plc Q s = j) := fun h => plc_hit hlt h HE.out
      have HNX : Hid (Q[j]?.getD [] ≠ s → ∀ i, i < j + 1 → Q[i]?.getD [] ≠ s) := fun h i hi => by
        by_cases e : i = j
        · subst e; exact h
        · exact HE.out i (by omega)
      clear hcell e2
      generalize Q[j]?.getD [] = h at *
      go_wp2_with fail
      refine HL.out.mono ?_
      rintro e w1 ⟨rfl, n1, rfl⟩
      have HW1 : Hid (∃ n, wr.drewN n1 = w.drewN n) := by obtain ⟨n, hn⟩ := HW.out; rw [hn]; exact dN2 _ _ _
      clear HL e1
      by_cases e : h = s
      · have HR := Lib.hid (HP.out e)
        rw [decide_eq_true e]
        clear e
        go_wp2_with fail
        go_ret
        exact ⟨ret_int HR.out.symm, HW1.out⟩
      · have HR := Lib.hid (HNX.out e)
        rw [decide_eq_false e]
        clear e
        go_wp2_with fail
        go_roundw
        case rel => exact ⟨j + 1, by omega, by go_num, HW1, HR⟩
        case measure => simp [intOf] <;> omega
    · have HR : Hid (plc Q s = -1) := plc_none (fun i hi => HE.out i (by omega))
      go_wp2_with fail
      go_ret
      exact ⟨ret_int HR.out.symm, HW.out⟩

/-- the code of a machine and words -/
def codeG (m : Mch) (rows : List Wd) : Int := if gwsB m rows = true then 0 else 1
theorem codeG_ok {m : Mch} {rows : List Wd} (h : gwsB m rows = true) : codeG m rows = 0 := if_pos h
theorem codeG_bad {m : Mch} {rows : List Wd} (h : gwsB m rows = false) : codeG m rows = 1 := by rw [codeG, h]; rfl
set_option maxRecDepth 100000 in
set_option maxHeartbeats 2000000 in
theorem l02Code_any (m : Mch) (hwf : m.Wf) (v : Value) (rows : List Wd) (hn : rows.length ≤ 1100000) (hx : ∀ i : Nat, (rows[i]?.getD []).length ≤ 1100000) (w : World) (hS : SlII w v rows) :
    Calls Try.prog 53 #[.agg m.cells.toArray, v] w (Ret (.int .i64 (codeG m rows)) w) := by
  obtain ⟨a, c, rfl, hc⟩ := hS
  have HC := Lib.hid hc
  have HX := Lib.hid hx
  have hm := MAt.boxed w m 29
  have hb0 := boxedBelow w m.cells.toArray 29
  have HIM := Lib.hid (mach_info hwf)
  have hmx : Try.prog.follows .mixedOrders = true := by kernel_rfl
  have HMX := Lib.hid hmx
  clear hc hx hmx
  go_enter Try.func53, Try.ntmps53
  by_cases c1 : machP m = true
  · have hok := mach_ok c1
    have HM1 := Lib.hid c1
    go_wp2_with ((with_reducible refine ld_mach ?_ (.tmp 2) ?_ (w.heap.size) (0) ?_ m hm hwf ?_); exact rfl; exact rfl; exact rfl)
    refine (l01Is_any m hwf _).mono ?_
    rintro e w1 ⟨rfl, hb1⟩
    have hbb1 := hb0.trans (hb1.mono hb0.size)
    have hm1 := hm.keep hb1 hwf
    have hbw : w.heap.size < w1.heap.size := World.block_lt_of_cell? w1 ⟨w.heap.size, 0, none⟩ hm1.l
    rw [c1]
    clear hm hb0 c1
    go_wp2_with fail
    go_loopw [5] (fun i wr => ∃ j : Nat, j ≤ rows.length ∧ i = .int .i64 j ∧ Below w.heap.size w wr ∧ Hid (MAt wr w.heap.size 0 m) ∧ Hid (∀ i, i < j → gwB m (rows[i]?.getD []) = true)) (fun i _ => rows.length - (intOf i).toNat)
    case atStart => exact ⟨0, Nat.zero_le _, rfl, hbb1, hm1, fun i h => by omega⟩
    case round =>
      clear hbb1 hm1
      obtain ⟨j, hj, rfl, hb, HMA, HE⟩ := hrel
      by_cases hlt : j < rows.length
      · obtain ⟨bb, off, rfl, a', c', e1, e2⟩ := HC.out j hlt
        have HL : Hid (∀ W, Below wr.heap.size wr W → Calls Try.prog 84 #[.agg m.cells.toArray, .slice a' (rows[j]?.getD []).length c'] W (Ret (.bool (gwB m (rows[j]?.getD []))) W)) := fun W hW =>
          l02Is_any m hwf hok a' _ c' (HX.out j) W (e2.keep (hb.trans (hW.mono hb.size)))
        have HSM : Hid (∀ W, Below wr.heap.size wr W → MAt W w.heap.size 0 m ∧ W.cell? ⟨bb, off + j, none⟩ = some (.slice a' (rows[j]?.getD []).length c')) := fun W hW =>
          ⟨HMA.out.keep hW hwf, ((hb.trans (hW.mono hb.size)).cell (World.block_lt_of_cell? w _ e1)).trans e1⟩
        have HNX : Hid (gwB m (rows[j]?.getD []) = true → ∀ i, i < j + 1 → gwB m (rows[i]?.getD []) = true) := fun h i hi => by
          by_cases e : i = j
          · subst e; exact h
          · exact HE.out i (by omega)
        have HF : Hid (gwB m (rows[j]?.getD []) = false → gwsB m rows = false) := fun h => by
          rw [gwsB, HM1.out, Bool.true_and, List.all_eq_false]
          exact ⟨rows[j], List.getElem_mem hlt, by rw [List.getElem?_eq_getElem hlt] at h; simpa using h⟩
        have i1 : (0 : Int) ≤ (j : Int) := by omega
        have i2 : (j : Int) < (rows.length : Int) := by omega
        clear e1 e2
        generalize rows[j]?.getD [] = h at *
        go_wp2_with fail
        have hbd : Below wr.heap.size wr wr.drew := (Below.refl _ wr).drew
        refine region_S (fun W => MAt W w.heap.size 0 m ∧ W.cell? ⟨bb, off + j, none⟩ = some (.slice a' h.length c')) [] 7 rfl HMX.out (HSM.out _ hbd) (fun hU => ?_)
        obtain ⟨W, hW⟩ : ∃ W, W = wr.drew := ⟨_, rfl⟩
        rw [← hW] at hU hbd ⊢
        clear hW
        (refine AnyS.takeS (i := 0) rfl (by kernel_rfl) (by kernel_rfl) (by kernel_rfl) (by rfl) (by kernel_rfl) (by kernel_rfl) (fun _ _ _ h => h) (by rfl) (fun W hW => run_ld Try.underlying29 rfl HIM.out (.tmp 2) rfl rfl hW.1) hU (fun hU => ?_); (try simp only [Act.put, List.setIfInBounds_toArray, List.set_cons_zero, List.set_cons_succ]))
        (refine AnyS.take (i := 1) rfl (by kernel_rfl) (by kernel_rfl) (by kernel_rfl) (by rfl) (fun _ _ _ h => h) (by rfl) (by intro w; go_simp; with_reducible rfl) hU (fun hU => ?_); (try simp only [Act.put, List.setIfInBounds_toArray, List.set_cons_zero, List.set_cons_succ]); refine AnyS.take (i := 2) rfl (by kernel_rfl) (by kernel_rfl) (by kernel_rfl) (by rfl) (fun _ _ _ h => h) (by rfl) (by intro w; go_simp; with_reducible rfl) hU (fun hU => ?_); (try simp only [Act.put, List.setIfInBounds_toArray, List.set_cons_zero, List.set_cons_succ]); refine AnyS.take (i := 3) rfl (by kernel_rfl) (by kernel_rfl) (by kernel_rfl) (by rfl) (fun _ _ _ h => h) (by rfl) (by intro w; go_simp; with_reducible rfl) hU (fun hU => ?_); (try simp only [Act.put, List.setIfInBounds_toArray, List.set_cons_zero, List.set_cons_succ]))
        (refine AnyS.takeS (i := 4) rfl (by kernel_rfl) (by kernel_rfl) (by kernel_rfl) (by rfl) (by kernel_rfl) (by kernel_rfl) (fun _ _ _ h => h) (by rfl) (by intro W hSw; have h1 := hSw.2; clear hSw; go_simp; with_reducible rfl) hU (fun hU => ?_); (try simp only [Act.put, List.setIfInBounds_toArray, List.set_cons_zero, List.set_cons_succ]))
        refine AnyS.branch (rs := [5]) (by kernel_rfl) (by simp) (AllS.cons rfl (fun K hK => ?_) AllS.nil)
        go_simp
        refine (HL.out _ hbd).mono ?_
        rintro e w4 ⟨rfl, hb4⟩
        have hbb4 := hbd.trans (hb4.mono hbd.size)
        refine hK.out _ _ (.inl (HSM.out _ hbb4)) (fun hU => ?_)
        clear hK K
        (try simp only [Act.put, List.setIfInBounds_toArray, List.set_cons_zero, List.set_cons_succ])
        (refine AnyS.take (i := 6) rfl (by kernel_rfl) (by kernel_rfl) (by kernel_rfl) (by rfl) (fun _ _ _ h => h) (by rfl) (by intro w; go_simp; with_reducible rfl) hU (fun hU => ?_); (try simp only [Act.put, List.setIfInBounds_toArray, List.set_cons_zero, List.set_cons_succ]))
        refine AnyS.done (by kernel_rfl) ?_ _
        have hbw := hb.trans (hbb4.mono hb.size)
        have HMB : Hid (MAt w4 w.heap.size 0 m) := (HSM.out _ hbb4).1
        clear hU
        cases hg : gwB m h
        · have HR := Lib.hid (HF.out hg)
          clear hg
          go_wp2_with fail
          go_ret
          exact ⟨ret_int (codeG_bad HR.out).symm, hbw⟩
        · have HR := Lib.hid (HNX.out hg)
          clear hg
          go_wp2_with fail
          go_roundw
          case rel => exact ⟨j + 1, by omega, by go_num, hbw, HMB, HR⟩
          case measure => simp [intOf] <;> omega
      · have HR : Hid (gwsB m rows = true) := by
          show _ = _
          rw [gwsB, HM1.out, Bool.true_and, List.all_eq_true]
          intro r hr
          obtain ⟨i, hi, rfl⟩ := List.getElem_of_mem hr
          have := HE.out i (by omega)
          rwa [List.getElem?_eq_getElem hi] at this
        go_wp2_with fail
        go_ret
        exact ⟨ret_int (codeG_ok HR.out).symm, hb⟩
  · have c1' : machP m = false := by simpa using c1
    have HR : Hid (gwsB m rows = false) := by show _ = _; rw [gwsB, c1']; rfl
    clear c1
    go_wp2_with ((with_reducible refine ld_mach ?_ (.tmp 2) ?_ (w.heap.size) (0) ?_ m hm hwf ?_); exact rfl; exact rfl; exact rfl)
    refine (l01Is_any m hwf _).mono ?_
    rintro e w1 ⟨rfl, hb1⟩
    have hbb1 := hb0.trans (hb1.mono hb0.size)
    rw [c1']
    clear hm
    go_wp2_with fail
    go_ret
    exact ⟨ret_int (codeG_bad HR.out).symm, hbb1⟩
end Go.Proofs.Yteagecoiijhflaa
