import Derived.Test.YteagecoiijhflaaYBall22
import Derived.Test.YteagecoiijhflaaYBall23
import Derived.Test.YteagecoiijhflaaYBall14
import Derived.Test.YteagecoiijhflaaYBall15
import Derived.Test.YteagecoiijhflaaYBall13
/- l10Start, l10Of: the ball of a radius, of the reference. -/
namespace Go.Proofs.Yteagecoiijhflaa
open Go.RowKit
set_option linter.unusedVariables false
set_option linter.unusedSimpArgs false

theorem Mg.outer {B : Nat} {w0 w : World} {L : List (Nat × List Value × TypeId)} {G : List Gr} (h : Mg B w0 w L G) {b : Nat} (hb : b < B) (o : Nat) (vs : List Value) : Mg B (w.setCells b o vs) (w.setCells b o vs) L G := by
  have hsz : (w.setCells b o vs).heap.size = w.heap.size := size_setCells b vs w o
  refine ⟨Below.refl _ _, by rw [hsz]; exact h.size, fun x hx => ⟨(h.blk x hx).1, (h.blk x hx).2.setsOther (by have := (h.blk x hx).1; omega) vs o⟩, h.dist, fun x hx => ?_, h.sep, h.gdist⟩
  have ho := h.own x hx
  refine ⟨ho.1, ?_⟩
  rcases ho.2 with hn | ⟨g, cap, cur, hv, h1, h2, rest⟩
  · exact .inl hn
  · have hg : Blk w g cur.toList x.E := by show _ = _; simpa using h2
    have := hg.setsOther (by omega : g ≠ b) vs o
    exact .inr ⟨g, cap, cur, hv, h1, by simpa [Blk] using this, rest⟩
theorem OwnI.outer {w : World} {B : Nat} {v : Value} {xs : List Int} (ho : OwnI w B v xs) {b : Nat} (hb : b < B) (o : Nat) (vs : List Value) : OwnI (w.setCells b o vs) B v xs := by
  refine ⟨ho.1, ?_⟩
  rcases ho.2 with hn | ⟨g, cap, cur, hv, h1, h2, rest⟩
  · exact .inl hn
  · have hg : Blk w g cur.toList 2 := by show _ = _; simpa using h2
    have := hg.setsOther (by omega : g ≠ b) vs o
    exact .inr ⟨g, cap, cur, hv, h1, by simpa [Blk] using this, rest⟩
theorem OwnI.ints {w w' : World} {B C : Nat} {a : Option Addr} {c : Nat} {xs : List Int} (h : OwnI w B (.slice a xs.length c) xs) (hC : ∀ k, (Value.slice a xs.length c).ownBlock = some k → k < C) (hb : Below C w w') : IntsAt w' a xs := by
  obtain ⟨a', c', e, hI⟩ := (h.keep hb hC).form
  injection e with e1
  rw [e1]; exact hI
theorem Mg.callB {B C : Nat} {w0 w w' : World} {L : List (Nat × List Value × TypeId)} (h : Mg B w0 w L []) (hL : ∀ x ∈ L, x.1 < C) (hBC : B ≤ C) (hb : Below C w w') : Mg B w0 w' L [] :=
  ⟨h.below.trans (hb.mono hBC), Nat.le_trans h.size hb.size, fun x hx => ⟨(h.blk x hx).1, (hb.block x.1 (hL x hx)).trans (h.blk x hx).2⟩, h.dist, fun x hx => (by cases hx), fun x hx => (by cases hx), List.Pairwise.nil⟩
/-- generators, a ball as a value, a code -/
def RetSt (w : World) (m : Mch) (r : Except Int (Bs × List Nat)) (e : Ending) (w' : World) : Prop := Below w.heap.size w w' ∧ match r with
  | .error c => c ≠ 0 ∧ ∃ g x y z, e = .returned (.tuple #[g, .agg #[x, y, z], .int .i64 c]) ∧ x.oneCell' = true ∧ y.oneCell' = true ∧ z.oneCell' = true
  | .ok (s, st) => ∃ (B : Nat) (ga : Option Addr) (gc : Nat) (vw vm vs : Value) (rw : List Value), e = .returned (.tuple #[.slice ga (genI m).1.length gc, .agg #[vw, vm, vs], .int .i64 0]) ∧ w.heap.size ≤ B ∧ (OwnI w' w.heap.size (.slice ga (genI m).1.length gc) (genI m).1 ∧ ∀ k, (Value.slice ga (genI m).1.length gc).ownBlock = some k → k < B) ∧ rw.length = s.length ∧ Mg B w' w' [] (ballS s vw rw vm vs st)
def startS (m : Mch) (r : Int) : Except Int (Bs × List Nat) := if machP m = false then .error 1 else if inR r 0 5 = false then .error 2 else if (genI m).2 ≠ 0 then .error (genI m).2 else beginB m
theorem startS_off {m : Mch} {r : Int} (h : machP m = false) : startS m r = .error 1 := if_pos h
theorem startS_range {m : Mch} {r : Int} (h : machP m = true) (h2 : inR r 0 5 = false) : startS m r = .error 2 := by unfold startS; rw [if_neg (by simp [h]), if_pos h2]
theorem startS_code {m : Mch} {r : Int} (h : machP m = true) (h2 : inR r 0 5 = true) (h3 : (genI m).2 ≠ 0) : startS m r = .error (genI m).2 := by unfold startS; rw [if_neg (by simp [h]), if_neg (by simp [h2]), if_pos h3]
theorem startS_ok {m : Mch} {r : Int} (h : machP m = true) (h2 : inR r 0 5 = true) (h3 : ¬ (genI m).2 ≠ 0) : startS m r = beginB m := by unfold startS; rw [if_neg (by simp [h]), if_neg (by simp [h2]), if_neg h3]

set_option maxRecDepth 100000 in
set_option maxHeartbeats 400000 in
theorem l10Start_any (m : Mch) (hwf : m.Wf) (r : Int) (w : World) :
    Calls Try.prog 78 #[.agg m.cells.toArray, .int .i64 r] w (RetSt w m (startS m r)) := by
  have HMX := Lib.hid (show Try.prog.follows .mixedOrders = true by kernel_rfl)
  have HI3 : Hid (∀ a b c : Value, (Try.prog.info? 90).map (·.size) = some [a, b, c].length) := by
    have h : (Try.prog.info? 90).map (·.size) = some 3 := by kernel_rfl
    exact fun _ _ _ => h
  have hM0 := ((Mg.start w).alloc m.cells.toArray 29).alloc #[.slice none 0 0, .slice none 0 0, .slice none 0 0] 90
  rw [World.size_alloc] at hM0
  have hm := hM0.mach 1 rfl
  have HIS := Lib.hid (l01Is_any m hwf _ : Calls Try.prog 64 #[.agg m.cells.toArray] ((w.alloc (.cells m.cells.toArray 29)).alloc (.cells #[.slice none 0 0, .slice none 0 0, .slice none 0 0] 90)) _)
  have HM0 := Lib.hid hM0
  clear hM0
  go_enter Try.func78, Try.ntmps78
  go_wp2_with ((with_reducible refine ld_mach ?_ (.tmp 2) ?_ (w.heap.size) (0) ?_ m hm hwf ?_); exact rfl; exact rfl; exact rfl)
  refine HIS.out.mono ?_
  rintro e w1 ⟨rfl, hb1⟩
  have hM1 := HM0.out.call hb1
  have ht := (hM1.at 0 rfl).there 0 3 (by simp)
  clear HM0 HIS hm hb1
  cases hp : machP m with
  | false =>
    have HD : Hid (startS m r = .error 1) := startS_off hp
    have HN := Lib.hid (hM1.setAll 0 rfl (vs := [.slice none 0 0, .slice none 0 0, .slice none 0 0]) rfl)
    have HB := Lib.hid (HN.out.at 0 rfl)
    clear hM1 hp
    go_wp2_with ((with_reducible refine st_row ?_ 90 (.tmp 5) (.tmp 15) ?_ (w.heap.size + 1) 0 [.slice none 0 0, .slice none 0 0, .slice none 0 0] ?_ ?_ ?_ (HI3.out _ _ _) ?_ ?_); exact rfl; exact rfl; exact rfl; exact rfl; exact ht; (simp [Value.oneCell']))
    refine bodyPost_ret (v := .tuple #[.slice none 0 0, .agg #[.slice none 0 0, .slice none 0 0, .slice none 0 0], .int .i64 1]) (results_tct Try.results78 _ _ (w.heap.size + 1) 90 #[.slice none 0 0, .slice none 0 0, .slice none 0 0] (0, 0) (.struct _) rfl HB.out Try.underlying90 rfl (HI3.out (.slice none 0 0) (.slice none 0 0) (.slice none 0 0))) rfl ?_
    rw [HD.out]
    exact ⟨HN.out.below, by decide, _, _, _, _, rfl, rfl, rfl, rfl⟩
  | true =>
    have HRW := Lib.hid (l01In_any r 0 5)
    have hm1 := hM1.mach 1 rfl
    cases hr : inR r 0 5 with
    | false =>
      have HD : Hid (startS m r = .error 2) := startS_range hp hr
      have HN := Lib.hid (hM1.setAll 0 rfl (vs := [.slice none 0 0, .slice none 0 0, .slice none 0 0]) rfl)
      have HB := Lib.hid (HN.out.at 0 rfl)
      rw [hr] at HRW
      clear hM1 hp hr hm1
      go_wp2_with (first | (go_at_call 54; refine (HRW.out _).mono ?_; rintro e w2 ⟨rfl, rfl⟩) | ((with_reducible refine st_row ?_ 90 (.tmp 5) (.tmp 20) ?_ (w.heap.size + 1) 0 [.slice none 0 0, .slice none 0 0, .slice none 0 0] ?_ ?_ ?_ (HI3.out _ _ _) ?_ ?_); exact rfl; exact rfl; exact rfl; exact rfl; exact ht; (simp [Value.oneCell'])))
      refine bodyPost_ret (v := .tuple #[.slice none 0 0, .agg #[.slice none 0 0, .slice none 0 0, .slice none 0 0], .int .i64 2]) (results_tct Try.results78 _ _ (w.heap.size + 1) 90 #[.slice none 0 0, .slice none 0 0, .slice none 0 0] (0, 0) (.struct _) rfl HB.out Try.underlying90 rfl (HI3.out (.slice none 0 0) (.slice none 0 0) (.slice none 0 0))) rfl ?_
      rw [HD.out]
      exact ⟨HN.out.below, by decide, _, _, _, _, rfl, rfl, rfl, rfl⟩
    | true =>
      have hok := mach_ok hp
      have hgl := genI_len m hok.s_le
      have HG := Lib.hid (l10Generators_any m hwf hok w1)
      have HC := Lib.hid (startS_code hp hr)
      have HOK := Lib.hid (startS_ok hp hr)
      have HL1 : Hid (∀ W, Calls Try.prog 118 #[.agg m.cells.toArray] W (RetS3 W.heap.size W W (beginB m))) := fun W => l10First_any m hwf hok W
      have HM1 := Lib.hid hM1
      rw [hr] at HRW
      clear hM1 hp hr hok ht
      go_wp2_with (first | (go_at_call 54; refine (HRW.out _).mono ?_; rintro e w2 ⟨rfl, rfl⟩) | ((with_reducible refine ld_mach ?_ (.tmp 2) ?_ (w.heap.size) (0) ?_ m hm1 hwf ?_); exact rfl; exact rfl; exact rfl))
      refine HG.out.mono ?_
      rintro e w3 ⟨v, rfl, hb3, hO3⟩
      obtain ⟨ga, gc, rfl, hI⟩ := id hO3.form
      have hM3 := HM1.out.callOwn hb3 hO3
      have HLT : Hid (w.heap.size + 1 < w3.heap.size) := (hM3.at 0 rfl).lt
      have hm3 := hM3.mach 1 rfl
      have ht := (hM3.at 0 rfl).there 0 3 (by simp)
      have HO3 := Lib.hid hO3
      clear HM1 hb3 HG hm1 hI hO3
      by_cases h0 : (genI m).2 = 0
      · have HD := Lib.hid (HOK.out (by simpa using h0))
        rw [h0]
        have HM3 := Lib.hid hM3
        clear hM3 h0 HC HOK ht
        go_wp2_with ((with_reducible refine ld_mach ?_ (.tmp 2) ?_ (w.heap.size) (0) ?_ m hm3 hwf ?_); exact rfl; exact rfl; exact rfl)
        refine (HL1.out _).mono ?_
        intro e w4 hR4
        obtain ⟨x, y, z, cc, rfl, hx1, hx2, hx3, hcase⟩ : ∃ (x y z : Value) (cc : Int), e = .returned (.tuple #[.agg #[x, y, z], .int .i64 cc]) ∧ x.oneCell' = true ∧ y.oneCell' = true ∧ z.oneCell' = true ∧ ((∃ c, beginB m = .error c ∧ c ≠ 0 ∧ cc = c ∧ Below w3.heap.size w3 w4) ∨ ∃ s st rw, beginB m = .ok (s, st) ∧ cc = 0 ∧ rw.length = s.length ∧ Mg w3.heap.size w3 w4 [] (ballS s x rw y z st)) := by
          cases hb : beginB m with
          | error c =>
            rw [hb] at hR4
            obtain ⟨hc, hb4, x, y, z, rfl, k1, k2, k3⟩ := hR4
            exact ⟨x, y, z, c, rfl, k1, k2, k3, .inl ⟨c, rfl, hc, rfl, hb4⟩⟩
          | ok p =>
            obtain ⟨s, st⟩ := p
            rw [hb] at hR4
            obtain ⟨vw, vm, vs, rw, rfl, hl, hM⟩ := hR4
            obtain ⟨a1, c1, rfl⟩ := hM.sl 0 (v := vw) rfl
            obtain ⟨a2, c2, rfl⟩ := hM.sl 1 (v := vm) rfl
            obtain ⟨a3, c3, rfl⟩ := hM.sl 2 (v := vs) rfl
            exact ⟨_, _, _, 0, rfl, rfl, rfl, rfl, .inr ⟨s, st, rw, rfl, rfl, hl, hM⟩⟩
        have hb4 : Below w3.heap.size w3 w4 := by
          rcases hcase with ⟨c, -, -, -, h⟩ | ⟨s, st, rw, -, -, -, h⟩
          · exact h
          · exact h.below
        have HCA := Lib.hid hcase
        have HON : Hid (∀ v ∈ [x, y, z], v.oneCell' = true) := by show ∀ v ∈ _, _; simp [hx1, hx2, hx3]
        have hM5 := (HM3.out.call hb4).alloc #[.slice none 0 0, .slice none 0 0, .slice none 0 0] 90
        have ht5 := (hM5.at 0 rfl).there 0 3 (by simp)
        have HM5 := Lib.hid (hM5.setAll 0 rfl (vs := [x, y, z]) rfl)
        clear hM5 hcase hx1 hx2 hx3 HM3 hm3 hb4 hR4
        go_wp2_with ((with_reducible refine st_row ?_ 90 (.tmp 9) (.tmp 33) ?_ w4.heap.size 0 [x, y, z] ?_ ?_ ?_ (HI3.out _ _ _) HON.out ?_); exact rfl; exact rfl; exact rfl; exact rfl; exact ht5)
        have HLG : Hid (∀ k, (Value.slice ga (genI m).1.length gc).ownBlock = some k → k < w3.heap.size) := fun k e => (World.ownsRow.lt HO3.out k e).2
        have HB2 : Hid (∀ s st rw, Mg w3.heap.size w3 w4 [] (ballS s x rw y z st) → Mg w3.heap.size w3 ((w4.alloc (.cells #[.slice none 0 0, .slice none 0 0, .slice none 0 0] 90)).setCells w4.heap.size 0 [x, y, z]).drew [] (ballS s x rw y z st)) := fun s st rw h => (((h.alloc #[.slice none 0 0, .slice none 0 0, .slice none 0 0] 90).setAll 0 rfl (vs := [x, y, z]) rfl).sub (List.nil_sublist _)).drewN 1
        have HM6 : Hid (Mg w.heap.size w ((w4.alloc (.cells #[.slice none 0 0, .slice none 0 0, .slice none 0 0] 90)).setCells w4.heap.size 0 [x, y, z]).drew [(w4.heap.size, [x, y, z], 90), (w.heap.size + 1, [.slice none 0 0, .slice none 0 0, .slice none 0 0], 90), (w.heap.size, m.cells, 29)] [⟨.slice ga (genI m).1.length gc, 2, 1, (genI m).1.length, i64s (genI m).1⟩]) := HM5.out.drewN 1
        clear HM5 ht5 HL1
        refine region_A (fun W => W.rangeAt w4.heap.size 0 [x, y, z]) [4] 6 (fun W => W = ((w4.alloc (.cells #[.slice none 0 0, .slice none 0 0, .slice none 0 0] 90)).setCells w4.heap.size 0 [x, y, z]).drew) rfl HMX.out rfl (fun W h => by rw [h]; exact (HM6.out.at 0 rfl).all) (fun W hW hU => ?_)
        rw [← hW] at HB2 HM6
        clear hW
        generalize w4.heap.size = b9 at *
        (refine AnyS.take (i := 0) rfl (by kernel_rfl) (by kernel_rfl) (by kernel_rfl) (by rfl) (fun _ _ _ h => h) (by rfl) (by intro w; go_simp; with_reducible rfl) hU (fun hU => ?_); (try simp only [Act.put, List.setIfInBounds_toArray, List.set_cons_zero, List.set_cons_succ]))
        (refine AnyS.takeS (i := 1) rfl (by kernel_rfl) (by kernel_rfl) (by kernel_rfl) (by rfl) (by kernel_rfl) (by kernel_rfl) (fun _ _ _ h => h) (by rfl) (fun W hW => run_ld Try.underlying90 rfl (HI3.out _ _ _) (.tmp 9) rfl rfl hW) hU (fun hU => ?_); (try simp only [Act.put, List.setIfInBounds_toArray, List.set_cons_zero, List.set_cons_succ]))
        (refine AnyS.take (i := 2) rfl (by kernel_rfl) (by kernel_rfl) (by kernel_rfl) (by rfl) (fun _ _ _ h => h) (by rfl) (by intro w; go_simp; with_reducible rfl) hU (fun hU => ?_); (try simp only [Act.put, List.setIfInBounds_toArray, List.set_cons_zero, List.set_cons_succ]); refine AnyS.take (i := 3) rfl (by kernel_rfl) (by kernel_rfl) (by kernel_rfl) (by rfl) (fun _ _ _ h => h) (by rfl) (by intro w; go_simp; with_reducible rfl) hU (fun hU => ?_); (try simp only [Act.put, List.setIfInBounds_toArray, List.set_cons_zero, List.set_cons_succ]))
        (refine AnyS.branch (rs := [4]) (by kernel_rfl) (List.cons_ne_nil _ _) ?_; refine AllS.cons rfl ?_ AllS.nil; intro K hK)
        have ht := (HM6.out.at 1 rfl).there 0 3 (by simp)
        have hM7 := HM6.out.setAll 1 rfl (vs := [x, y, z]) rfl
        refine st_rowQ (by rfl) 90 (.tmp 5) (.tmp 36) rfl (w.heap.size + 1) 0 [x, y, z] rfl rfl ht (HI3.out _ _ _) HON.out ?_
        refine hK.out _ _ (.inl (hM7.at 0 rfl).all) (fun hU => ?_)
        clear hK K ht
        (try simp only [Act.put, List.setIfInBounds_toArray, List.set_cons_zero, List.set_cons_succ])
        (refine AnyS.take (i := 5) rfl (by kernel_rfl) (by kernel_rfl) (by kernel_rfl) (by rfl) (fun _ _ _ h => h) (by rfl) (by intro w; go_simp; with_reducible rfl) hU (fun hU => ?_); (try simp only [Act.put, List.setIfInBounds_toArray, List.set_cons_zero, List.set_cons_succ]))
        refine AnyS.done (by kernel_rfl) ?_ _
        clear hU
        have HB := Lib.hid (hM7.at 1 rfl)
        have HM7 := Lib.hid hM7
        clear hM7
        go_wp2_with fail
        refine bodyPost_ret (v := .tuple #[.slice ga (genI m).1.length gc, .agg #[x, y, z], .int .i64 cc]) (results_tct Try.results78 _ _ (w.heap.size + 1) 90 #[x, y, z] (0, 0) (.struct _) rfl HB.out Try.underlying90 rfl (HI3.out x y z)) rfl ?_
        rw [HD.out]
        rcases HCA.out with ⟨c, hb, hc, rfl, -⟩ | ⟨s, st, rw, hb, rfl, hl, hM⟩
        · rw [hb]
          exact ⟨HM7.out.below, hc, _, x, y, z, rfl, HON.out x (by simp), HON.out y (by simp), HON.out z (by simp)⟩
        · rw [hb]
          have hO : OwnI (W.setCells (w.heap.size + 1) 0 [x, y, z]) w.heap.size (.slice ga (genI m).1.length gc) (genI m).1 := HM7.out.row 0 rfl
          exact ⟨HM7.out.below, w3.heap.size, ga, gc, x, y, z, rw, rfl, by have := HLT.out; omega, ⟨hO, HLG.out⟩, hl, (HB2.out s st rw hM).outer HLT.out 0 [x, y, z]⟩
      · have HD := Lib.hid (HC.out h0)
        generalize hcc : (genI m).2 = cc at *
        have j1 : (cc != 0) = true := by simpa using h0
        have HN := Lib.hid (hM3.setAll 0 rfl (vs := [.slice none 0 0, .slice none 0 0, .slice none 0 0]) rfl)
        have HB := Lib.hid (HN.out.at 0 rfl)
        clear HC HOK hM3
        go_wp2_with (first | ((with_reducible refine st_row ?_ 90 (.tmp 5) (.tmp 28) ?_ (w.heap.size + 1) 0 [.slice none 0 0, .slice none 0 0, .slice none 0 0] ?_ ?_ ?_ (HI3.out _ _ _) ?_ ?_); exact rfl; exact rfl; exact rfl; exact rfl; exact ht; (simp [Value.oneCell'])))
        refine bodyPost_ret (v := .tuple #[.slice none 0 0, .agg #[.slice none 0 0, .slice none 0 0, .slice none 0 0], .int .i64 cc]) (results_tct Try.results78 _ _ (w.heap.size + 1) 90 #[.slice none 0 0, .slice none 0 0, .slice none 0 0] (0, 0) (.struct _) rfl HB.out Try.underlying90 rfl (HI3.out (.slice none 0 0) (.slice none 0 0) (.slice none 0 0))) rfl ?_
        rw [HD.out]
        exact ⟨HN.out.below, h0, _, _, _, _, rfl, rfl, rfl, rfl⟩
end Go.Proofs.Yteagecoiijhflaa

/- l10Of: the ball of a radius, of the reference. -/
namespace Go.Proofs.Yteagecoiijhflaa
open Go.RowKit
set_option linter.unusedVariables false
set_option linter.unusedSimpArgs false

theorem results_ctt {P : Program} {fn : Func} {p q r : Tmp} {ty : TypeId} (h : fn.results = #[.cell p ty, .tmp q, .tmp r]) (tmps : Array Value) (w : World) (g : Nat) (t : TypeId) (cs : Array Value) (fr : Nat × Nat) (d : TypeDesc)
    (hp : tmps.getD p undef = .pointer (some ⟨g, 0, none⟩)) (hg : w.heap[g]? = some (.cells cs t fr))
    (hu : P.underlying ty = some d) (hd : (match d with | .struct _ | .array _ _ => true | _ => false) = true) (hi : (P.info? ty).map (·.size) = some cs.size) :
    (results fn tmps).run P w = .ok (.tuple #[.agg cs, tmps.getD q undef, tmps.getD r undef]) w := by
  have hp' : tmps[p]?.getD undef = .pointer (some ⟨g, 0, none⟩) := by simpa using hp
  simp [results, h, hp', asAddr, run_loadVar_row w g t ty cs fr d hg hu hd hi]
/-- a ball as a value, generators, a code -/
def RetOf (w : World) (m : Mch) (r : Except Int (Bs × List Nat)) (e : Ending) (w' : World) : Prop := Below w.heap.size w w' ∧ match r with
  | .error c => c ≠ 0 ∧ ∃ g x y z, e = .returned (.tuple #[.agg #[x, y, z], g, .int .i64 c]) ∧ x.oneCell' = true ∧ y.oneCell' = true ∧ z.oneCell' = true
  | .ok (s, st) => ∃ (B : Nat) (ga : Option Addr) (gc : Nat) (vw vm vs : Value) (rw : List Value), e = .returned (.tuple #[.agg #[vw, vm, vs], .slice ga (genI m).1.length gc, .int .i64 0]) ∧ w.heap.size ≤ B ∧ (OwnI w' w.heap.size (.slice ga (genI m).1.length gc) (genI m).1 ∧ ∀ k, (Value.slice ga (genI m).1.length gc).ownBlock = some k → k < B) ∧ rw.length = s.length ∧ Mg B w' w' [] (ballS s vw rw vm vs st)
theorem startS_err {m : Mch} {r c : Int} (h : startS m r = .error c) : ballI m r = .error c := by
  unfold startS at h; unfold ballI
  by_cases h1 : machP m = false
  · rw [if_pos h1] at h ⊢; cases h; rfl
  · rw [if_neg h1] at h ⊢
    by_cases h2 : inR r 0 5 = false
    · rw [if_pos h2] at h ⊢; cases h; rfl
    · rw [if_neg h2] at h ⊢
      by_cases h3 : (genI m).2 ≠ 0
      · rw [if_pos h3] at h ⊢; cases h; rfl
      · rw [if_neg h3] at h ⊢
        have hz : ∀ n, ballR m (genI m).1 n = .error c := fun n => by
          induction n with
          | zero => rw [ballR_zero]; exact h
          | succ n ih => rw [ballR_succ, ih, stepB_err]
        exact hz _
theorem startS_good {m : Mch} {r : Int} {x : Bs × List Nat} (h : startS m r = .ok x) : machP m = true ∧ inR r 0 5 = true ∧ ballI m r = ballR m (genI m).1 r.toNat ∧ ballR m (genI m).1 0 = .ok x := by
  unfold startS at h; unfold ballI
  by_cases h1 : machP m = false
  · rw [if_pos h1] at h; cases h
  · rw [if_neg h1] at h ⊢
    by_cases h2 : inR r 0 5 = false
    · rw [if_pos h2] at h; cases h
    · rw [if_neg h2] at h ⊢
      by_cases h3 : (genI m).2 ≠ 0
      · rw [if_pos h3] at h; cases h
      · rw [if_neg h3] at h ⊢
        exact ⟨by simpa using h1, by simpa using h2, rfl, by rw [ballR_zero]; exact h⟩
/-- the next ball, out of a ball in the memory -/
theorem grow_step (m : Mch) (hwf : m.Wf) (hok : m.Ok) (B : Nat) (w0 : World) (L0 : List (Nat × List Value × TypeId)) (ga : Option Addr) (gc n : Nat) (hn : n ≤ 900) (hI : ∀ W, Below B w0 W → IntsAt W ga (genI m).1) (vw vm vs : Value) (rw : List Value) (s : Bs) (st : List Nat)
    (hb : ballR m (genI m).1 n = .ok (s, st)) (hrw : rw.length = s.length) (w : World) (hM : Mg B w0 w L0 (ballS s vw rw vm vs st)) :
    Calls Try.prog 80 #[.agg m.cells.toArray, .agg #[vw, vm, vs], .slice ga (genI m).1.length gc] w (RetS4 B w0 L0 (ballR m (genI m).1 (n + 1))) := by
  obtain ⟨k1, k2, k3⟩ := ballR_ok (genI_gw m) n hb
  have hst : st.length = n + 1 := k2
  rw [ballR_succ, hb]
  exact l10Grow_any m hwf hok B w0 L0 ga gc (genI m).1 (genI_gw m) (genI_len m hok.s_le) hI vw vm vs rw st s n hn k1 (ballR_pos n hb) k3 (by omega) (by omega) hrw w (by rw [List.append_nil]; exact hM)

set_option maxRecDepth 100000 in
set_option maxHeartbeats 400000 in
theorem l10Of_any (m : Mch) (hwf : m.Wf) (r : Int) (w : World) :
    Calls Try.prog 75 #[.agg m.cells.toArray, .int .i64 r] w (RetOf w m (ballI m r)) := by
  have HI3 : Hid (∀ a b c : Value, (Try.prog.info? 90).map (·.size) = some [a, b, c].length) := by
    have h : (Try.prog.info? 90).map (·.size) = some 3 := by kernel_rfl
    exact fun _ _ _ => h
  have hM0 := ((Mg.start w).alloc m.cells.toArray 29).alloc #[.slice none 0 0, .slice none 0 0, .slice none 0 0] 90
  rw [World.size_alloc] at hM0
  have hm := hM0.mach 1 rfl
  have HSA := Lib.hid (fun W => l10Start_any m hwf r W)
  have HM0 := Lib.hid hM0
  clear hM0
  go_enter Try.func75, Try.ntmps75
  go_wp2_with ((with_reducible refine ld_mach ?_ (.tmp 2) ?_ (w.heap.size) (0) ?_ m hm hwf ?_); exact rfl; exact rfl; exact rfl)
  refine (HSA.out _).mono ?_
  rintro e w1 ⟨hb1, hR1⟩
  obtain ⟨g, x, y, z, cc, rfl, hx1, hx2, hx3, hcase⟩ : ∃ (g x y z : Value) (cc : Int), e = .returned (.tuple #[g, .agg #[x, y, z], .int .i64 cc]) ∧ x.oneCell' = true ∧ y.oneCell' = true ∧ z.oneCell' = true ∧ ((startS m r = .error cc ∧ cc ≠ 0) ∨ ∃ s st B ga gc rw, startS m r = .ok (s, st) ∧ cc = 0 ∧ g = .slice ga (genI m).1.length gc ∧ w.heap.size + 1 < B ∧ (OwnI w1 (w.heap.size + 1 + 1) (.slice ga (genI m).1.length gc) (genI m).1 ∧ ∀ k, (Value.slice ga (genI m).1.length gc).ownBlock = some k → k < B) ∧ rw.length = s.length ∧ Mg B w1 w1 [] (ballS s x rw y z st)) := by
    cases hb : startS m r with
    | error c =>
      rw [hb] at hR1
      obtain ⟨hc, g, x, y, z, rfl, k1, k2, k3⟩ := hR1
      exact ⟨g, x, y, z, c, rfl, k1, k2, k3, .inl ⟨rfl, hc⟩⟩
    | ok p =>
      obtain ⟨s, st⟩ := p
      rw [hb] at hR1
      obtain ⟨B, ga, gc, vw, vm, vs, rw, rfl, hB, hI, hl, hM⟩ := hR1
      obtain ⟨a1, c1, rfl⟩ := hM.sl 0 (v := vw) rfl
      obtain ⟨a2, c2, rfl⟩ := hM.sl 1 (v := vm) rfl
      obtain ⟨a3, c3, rfl⟩ := hM.sl 2 (v := vs) rfl
      rw [World.size_alloc, World.size_alloc] at hI
      refine ⟨_, _, _, _, 0, rfl, rfl, rfl, rfl, .inr ⟨s, st, B, ga, gc, rw, rfl, rfl, rfl, ?_, hI, hl, hM⟩⟩
      · simp only [World.size_alloc] at hB
        omega
  have HON : Hid (∀ v ∈ [x, y, z], v.oneCell' = true) := by show ∀ v ∈ _, _; simp [hx1, hx2, hx3]
  have HC1 := Lib.hid (HM0.out.call hb1)
  have hM1 := (HM0.out.call hb1).alloc #[.slice none 0 0, .slice none 0 0, .slice none 0 0] 90
  have ht1 := (hM1.at 0 rfl).there 0 3 (by simp)
  have HCA := Lib.hid hcase
  clear hcase HM0 hm hx1 hx2 hx3 hR1
  rcases HCA.out with ⟨hst, hcc⟩ | ⟨s0, st0, B, ga, gc, rw0, hst, rfl, rfl, hB, hI, hl, hMB⟩
  · have HD := Lib.hid (startS_err hst)
    have HM2 : Hid (Mg w.heap.size w ((w1.alloc (.cells #[.slice none 0 0, .slice none 0 0, .slice none 0 0] 90)).setCells w1.heap.size 0 [x, y, z]) [(w1.heap.size, [x, y, z], 90), (w.heap.size + 1, [.slice none 0 0, .slice none 0 0, .slice none 0 0], 90), (w.heap.size, m.cells, 29)] []) := hM1.setAll 0 rfl (vs := [x, y, z]) rfl
    have HCC := Lib.hid hcc
    have j1 : (cc == 0) = false := by simpa using hcc
    clear hM1 hst hcc HC1
    go_wp2_with ((with_reducible refine st_row ?_ 90 (.tmp 8) (.tmp 18) ?_ w1.heap.size 0 [x, y, z] ?_ ?_ ?_ (HI3.out _ _ _) HON.out ?_); exact rfl; exact rfl; exact rfl; exact rfl; exact ht1; clear ht1; generalize (w1.alloc (.cells #[.slice none 0 0, .slice none 0 0, .slice none 0 0] 90)).setCells w1.heap.size 0 [x, y, z] = W2 at *)
    generalize w1.heap.size = b8 at *
    go_loopw [9, 10] (fun cv iv wr => cv = .int .i64 cc ∧ iv = .int .i64 0 ∧ Mg w.heap.size w wr [(b8, [x, y, z], 90), (w.heap.size + 1, [.slice none 0 0, .slice none 0 0, .slice none 0 0], 90), (w.heap.size, m.cells, 29)] []) (fun _ _ _ => 0)
    case atStart => exact ⟨rfl, rfl, HM2.out⟩
    case round =>
      clear HM2
      obtain ⟨rfl, rfl, hM⟩ := hrel
      have k0 := (hM.at 0 rfl).cell' (i := 0) rfl
      have k1 := (hM.at 0 rfl).cell' (i := 1) rfl
      have k2 := (hM.at 0 rfl).cell' (i := 2) rfl
      have ht2 := (hM.at 1 rfl).there 0 3 (by simp)
      have HN := Lib.hid (hM.setAll 1 rfl (vs := [x, y, z]) rfl)
      have HB := Lib.hid (HN.out.at 1 rfl)
      clear hM
      by_cases h0r : 0 < r
      all_goals
        go_wp2_with ((with_reducible refine st_row ?_ 90 (.tmp 4) (.tmp 38) ?_ (w.heap.size + 1) 0 [x, y, z] ?_ ?_ ?_ (HI3.out _ _ _) HON.out ?_); exact rfl; exact rfl; exact rfl; exact rfl; exact ht2)
        refine bodyPost_ret (v := .tuple #[.agg #[x, y, z], g, .int .i64 cc]) (results_ctt Try.results75 _ _ (w.heap.size + 1) 90 #[x, y, z] (0, 0) (.struct _) rfl HB.out Try.underlying90 rfl (HI3.out x y z)) rfl ?_
        rw [HD.out]
        exact ⟨HN.out.below, HCC.out, _, x, y, z, rfl, HON.out x (by simp), HON.out y (by simp), HON.out z (by simp)⟩
  · obtain ⟨hp, hr, hbi, hb0⟩ := startS_good hst
    obtain ⟨n, rfl⟩ : ∃ n : Nat, r = (n : Int) := ⟨r.toNat, by simp only [inR, Bool.and_eq_true, decide_eq_true_eq] at hr; omega⟩
    have hn : n ≤ 5 := by simp only [inR, Bool.and_eq_true, decide_eq_true_eq] at hr; omega
    have hok := mach_ok hp
    have HD : Hid (ballI m (n : Int) = ballR m (genI m).1 n) := hbi
    have HB0 := Lib.hid hb0
    have HGI := Lib.hid hI
    have HW1 := Lib.hid hMB
    have HL0 := Lib.hid hl
    have HMB : Hid (Mg B w1 ((w1.alloc (.cells #[.slice none 0 0, .slice none 0 0, .slice none 0 0] 90)).setCells w1.heap.size 0 [x, y, z]) [(w1.heap.size, [x, y, z], 90)] (ballS s0 x rw0 y z st0)) := (hMB.alloc #[.slice none 0 0, .slice none 0 0, .slice none 0 0] 90).setAll 0 rfl (vs := [x, y, z]) rfl
    have HCB : Hid (∀ W, Below B w1 W → Mg w.heap.size w W [(w.heap.size + 1, [.slice none 0 0, .slice none 0 0, .slice none 0 0], 90), (w.heap.size, m.cells, 29)] []) := fun W hW => HC1.out.callB (fun x hx => by
      rcases List.mem_cons.1 hx with rfl | hx
      · exact hB
      · rw [List.mem_singleton.1 hx]; show w.heap.size < B; omega) (by omega) hW
    have HGS : Hid (∀ b8 W k vw vm vs rw s st, k ≤ 5 → ballR m (genI m).1 k = .ok (s, st) → rw.length = s.length → Mg B w1 W [(b8, [vw, vm, vs], 90)] (ballS s vw rw vm vs st) → Calls Try.prog 80 #[.agg m.cells.toArray, .agg #[vw, vm, vs], .slice ga (genI m).1.length gc] W (RetS4 B w1 [(b8, [vw, vm, vs], 90)] (ballR m (genI m).1 (k + 1)))) := fun b8 W k vw vm vs rw s st hk hb hl h => grow_step m hwf hok B w1 _ ga gc k (by omega) (fun W hW => HGI.out.1.ints HGI.out.2 hW) vw vm vs rw s st hb hl W h
    have HBR := Lib.hid hB
    clear hM1 hst hI hl hMB hbi hb0 HC1 HCA hp hr hok hB
    go_wp2_with ((with_reducible refine st_row ?_ 90 (.tmp 8) (.tmp 18) ?_ w1.heap.size 0 [x, y, z] ?_ ?_ ?_ (HI3.out _ _ _) HON.out ?_); exact rfl; exact rfl; exact rfl; exact rfl; exact ht1; clear ht1; generalize (w1.alloc (.cells #[.slice none 0 0, .slice none 0 0, .slice none 0 0] 90)).setCells w1.heap.size 0 [x, y, z] = W2 at *)
    generalize w1.heap.size = b8 at *
    generalize hgs : (genI m).1 = gs at *
    go_loopw [9, 10] (fun cv iv wr => ∃ (i : Nat) (x y z : Value), i ≤ n ∧ iv = .int .i64 (i : Int) ∧ Hid (∀ v ∈ [x, y, z], v.oneCell' = true) ∧ ((∃ c, cv = .int .i64 c ∧ c ≠ 0 ∧ Hid (ballR m gs i = .error c) ∧ Mg B w1 wr [(b8, [x, y, z], 90)] []) ∨ ∃ s st rw, cv = .int .i64 0 ∧ Hid (ballR m gs i = .ok (s, st)) ∧ Hid (rw.length = s.length) ∧ Mg B w1 wr [(b8, [x, y, z], 90)] (ballS s x rw y z st))) (fun _ i _ => n - (intOf i).toNat)
    case atStart => exact ⟨0, x, y, z, Nat.zero_le _, rfl, HON.out, .inr ⟨s0, st0, rw0, rfl, HB0.out, HL0.out, HMB.out⟩⟩
    case round =>
      clear HMB HB0 HL0 HON
      obtain ⟨i, x, y, z, hi, rfl, HON, hcase⟩ := hrel
      have ei : IntKind.i64.wrap ((i : Int) + 1) = (i : Int) + 1 := IntWalk.i64_in _ (by omega)
      have hMx : Mg B w1 wr [(b8, [x, y, z], 90)] [] := by
        rcases hcase with ⟨c, -, -, -, h⟩ | ⟨s, st, rw, -, -, -, h⟩
        · exact h
        · exact h.subG (List.nil_sublist _)
      have k0 := (hMx.at 0 rfl).cell' (i := 0) rfl
      have k1 := (hMx.at 0 rfl).cell' (i := 1) rfl
      have k2 := (hMx.at 0 rfl).cell' (i := 2) rfl
      have hBX := HCB.out wr hMx.below
      have ht2 := (hBX.at 0 rfl).there 0 3 (by simp)
      have HN := Lib.hid (hBX.setAll 0 rfl (vs := [x, y, z]) rfl)
      have HB := Lib.hid (HN.out.at 0 rfl)
      have hm1 := hBX.mach 1 rfl
      clear hMx hBX
      rcases hcase with ⟨c, rfl, hc, HE, hM⟩ | ⟨s, st, rw, rfl, HS, HL, hM⟩
      · have j1 : (c == 0) = false := by simpa using hc
        have HC := Lib.hid hc
        have HE2 : Hid (ballR m gs n = .error c) := by
          show _ = _
          obtain ⟨d, rfl⟩ : ∃ d, n = i + d := ⟨n - i, by omega⟩
          clear ei hi
          induction d with
          | zero => exact HE.out
          | succ d ih =>
            have h2 : ballR m gs (i + d) = .error c := by
              have hz : ∀ e, ballR m gs (i + e) = .error c := fun e => by
                induction e with
                | zero => exact HE.out
                | succ e ih => rw [← Nat.add_assoc, ballR_succ, ih, stepB_err]
              exact hz d
            rw [← Nat.add_assoc, ballR_succ, h2, stepB_err]
        clear hc hM HE
        by_cases hlt : i < n
        case' pos => have i2 : (i : Int) < (n : Int) := by omega
        case' neg => have i2 : ¬ ((i : Int) < (n : Int)) := by omega
        all_goals
          go_wp2_with ((with_reducible refine st_row ?_ 90 (.tmp 4) (.tmp 38) ?_ (w.heap.size + 1) 0 [x, y, z] ?_ ?_ ?_ (HI3.out _ _ _) ?_ ?_); exact rfl; exact rfl; exact rfl; exact rfl; exact ht2; exact HON.out)
          refine bodyPost_ret (v := .tuple #[.agg #[x, y, z], .slice ga gs.length gc, .int .i64 c]) (results_ctt Try.results75 _ _ (w.heap.size + 1) 90 #[x, y, z] (0, 0) (.struct _) rfl HB.out Try.underlying90 rfl (HI3.out x y z)) rfl ?_
          rw [HD.out, HE2.out]
          exact ⟨HN.out.below, HC.out, _, x, y, z, rfl, HON.out x (by simp), HON.out y (by simp), HON.out z (by simp)⟩
      · by_cases hlt : i < n
        · have i2 : (i : Int) < (n : Int) := by omega
          have HG := Lib.hid (HGS.out b8 wr i x y z rw s st (by omega) HS.out HL.out hM)
          clear ht2 hM HN HB
          go_wp2_with ((with_reducible refine ld_mach ?_ (.tmp 2) ?_ (w.heap.size) (0) ?_ m hm1 hwf ?_); exact rfl; exact rfl; exact rfl)
          refine HG.out.mono ?_
          intro e w5 hR5
          obtain ⟨x', y', z', c', G', rfl, HON', hMG, hcase⟩ : ∃ (x' y' z' : Value) (c' : Int) (G' : List Gr), e = .returned (.tuple #[.agg #[x', y', z'], .int .i64 c']) ∧ Hid (∀ v ∈ [x', y', z'], v.oneCell' = true) ∧ Mg B w1 w5 [(b8, [x, y, z], 90)] G' ∧ ((c' ≠ 0 ∧ ballR m gs (i + 1) = .error c') ∨ ∃ s st rw, c' = 0 ∧ ballR m gs (i + 1) = .ok (s, st) ∧ rw.length = s.length ∧ G' = ballS s x' rw y' z' st) := by
            cases hb : ballR m gs (i + 1) with
            | error c =>
              rw [hb] at hR5
              obtain ⟨hc, hM, x', y', z', rfl, q1, q2, q3⟩ := hR5
              exact ⟨x', y', z', c, [], rfl, (by show ∀ v ∈ _, _; simp [q1, q2, q3]), hM, .inl ⟨hc, rfl⟩⟩
            | ok p =>
              obtain ⟨s, st⟩ := p
              rw [hb] at hR5
              obtain ⟨vw, vm, vs, rw, rfl, hl, hM⟩ := hR5
              obtain ⟨a1, c1, rfl⟩ := hM.sl 0 (v := vw) rfl
              obtain ⟨a2, c2, rfl⟩ := hM.sl 1 (v := vm) rfl
              obtain ⟨a3, c3, rfl⟩ := hM.sl 2 (v := vs) rfl
              exact ⟨_, _, _, 0, _, rfl, (by show ∀ v ∈ _, _; simp [Value.oneCell']), hM, .inr ⟨s, st, rw, rfl, rfl, hl, rfl⟩⟩
          have HCA := Lib.hid hcase
          have hM6 := hMG.alloc #[.slice none 0 0, .slice none 0 0, .slice none 0 0] 90
          have ht6 := (hM6.at 0 rfl).there 0 3 (by simp)
          have HM6 : Hid (Mg B w1 ((w5.alloc (.cells #[.slice none 0 0, .slice none 0 0, .slice none 0 0] 90)).setCells w5.heap.size 0 [x', y', z']) [(w5.heap.size, [x', y', z'], 90), (b8, [x, y, z], 90)] G') := hM6.setAll 0 rfl (vs := [x', y', z']) rfl
          have q0 := (HM6.out.at 0 rfl).cell' (i := 0) rfl
          have q1 := (HM6.out.at 0 rfl).cell' (i := 1) rfl
          have q2 := (HM6.out.at 0 rfl).cell' (i := 2) rfl
          have ht7 := (HM6.out.at 1 rfl).there 0 3 (by simp)
          clear hM6 hMG hcase hR5 HG hm1 k0 k1 k2
          go_wp2_with (first
            | ((with_reducible refine st_row ?_ 90 (.tmp 11) (.tmp 34) ?_ w5.heap.size 0 [x', y', z'] ?_ ?_ ?_ (HI3.out _ _ _) HON'.out ?_); exact rfl; exact rfl; exact rfl; exact rfl; exact ht6; clear ht6; generalize (w5.alloc (.cells #[.slice none 0 0, .slice none 0 0, .slice none 0 0] 90)).setCells w5.heap.size 0 [x', y', z'] = W6 at *)
            | ((with_reducible refine st_row ?_ 90 (.tmp 8) (.tmp 36) ?_ b8 0 [x', y', z'] ?_ ?_ ?_ (HI3.out _ _ _) HON'.out ?_); exact rfl; exact rfl; exact rfl; exact rfl; exact ht7))
          have hM8 := (HM6.out.setAll 1 rfl (vs := [x', y', z']) rfl).sub (List.sublist_cons_self _ _)
          go_roundw
          case rel =>
            refine ⟨i + 1, x', y', z', by omega, by go_num, HON'.out, ?_⟩
            rcases HCA.out with ⟨hc, hb⟩ | ⟨s, st, rw, rfl, hb, hl, rfl⟩
            · exact .inl ⟨c', rfl, hc, hb, hM8.subG (List.nil_sublist _)⟩
            · exact .inr ⟨s, st, rw, rfl, hb, hl, hM8⟩
          case measure => simp [intOf] <;> omega
        · have i2 : ¬ ((i : Int) < (n : Int)) := by omega
          have hin : i = n := by omega
          have HE2 : Hid (ballR m gs n = .ok (s, st)) := by show _ = _; rw [← hin]; exact HS.out
          have HM := Lib.hid hM
          clear hM hin
          go_wp2_with ((with_reducible refine st_row ?_ 90 (.tmp 4) (.tmp 38) ?_ (w.heap.size + 1) 0 [x, y, z] ?_ ?_ ?_ (HI3.out _ _ _) ?_ ?_); exact rfl; exact rfl; exact rfl; exact rfl; exact ht2; exact HON.out)
          refine bodyPost_ret (v := .tuple #[.agg #[x, y, z], .slice ga gs.length gc, .int .i64 0]) (results_ctt Try.results75 _ _ (w.heap.size + 1) 90 #[x, y, z] (0, 0) (.struct _) rfl HB.out Try.underlying90 rfl (HI3.out x y z)) rfl ?_
          rw [HD.out, HE2.out]
          refine ⟨HN.out.below, B, ga, gc, x, y, z, rw, by rw [hgs], by have := HBR.out; omega, ?_, HL.out, ((HM.out.sub (List.nil_sublist _)).outer HBR.out 0 [x, y, z]).since⟩
          rw [hgs]
          exact ⟨(((HGI.out.1.keep HM.out.below HGI.out.2).outer (b := w.heap.size + 1) (by omega) 0 [x, y, z]).less (by omega)), HGI.out.2⟩
end Go.Proofs.Yteagecoiijhflaa

/- BallOf and SphereSizes of the program. -/
namespace Go.Proofs.Yteagecoiijhflaa
open Go.RowKit
set_option linter.unusedVariables false
set_option linter.unusedSimpArgs false

def ballX (m : Mch) (r : Int) : List Wd × Int := match ballI m r with
  | .error c => ([], c)
  | .ok y => (y.1.map (·.1), 0)
def sphX (m : Mch) (r : Int) : List Int × Int := match ballI m r with
  | .error c => ([], c)
  | .ok y => (natsI (cntB y.2 y.1.length), 0)
theorem ballX_err {m : Mch} {r c : Int} (h : ballI m r = .error c) : ballX m r = ([], c) := by unfold ballX; rw [h]
theorem ballX_ok {m : Mch} {r : Int} {s : Bs} {st : List Nat} (h : ballI m r = .ok (s, st)) : ballX m r = (s.map (·.1), 0) := by unfold ballX; rw [h]
theorem sphX_err {m : Mch} {r c : Int} (h : ballI m r = .error c) : sphX m r = ([], c) := by unfold sphX; rw [h]
theorem sphX_ok {m : Mch} {r : Int} {s : Bs} {st : List Nat} (h : ballI m r = .ok (s, st)) : sphX m r = (natsI (cntB st s.length), 0) := by unfold sphX; rw [h]
theorem Mg.ballRows {B : Nat} {w0 w : World} {L : List (Nat × List Value × TypeId)} {s : Bs} {vw vm vs : Value} {rw : List Value} {cs : List Nat} {GR : List Gr} (h : Mg B w0 w L (ballG s vw rw vm vs cs ++ GR)) (hl : rw.length = s.length) {C : Nat} (hC : C ≤ B) : OwnII w C vw (s.map (·.1)) := by
  have h1 : Mg B w0 w [] (((vw, 26, rw) :: rowG rw (s.map (·.1))).map Gr.of) := by
    have h2 := h.sub (List.nil_sublist L)
    have e : Gr.of (vw, 26, rw) = ⟨vw, 26, 1, s.length, rw⟩ := by simp [Gr.of, hl]
    rw [List.map_cons, e]
    refine h2.subG ?_
    rw [ballG, List.cons_append, List.cons_append, List.cons_append]
    exact List.Sublist.cons_cons _ (List.Sublist.cons _ (List.Sublist.cons _ (List.sublist_append_left _ _)))
  exact OwnII.of (h1.mm.less hC) (by rw [hl, List.length_map])
theorem Mg.ballSph {B : Nat} {w0 w : World} {L : List (Nat × List Value × TypeId)} {s : Bs} {vw vm vs : Value} {rw : List Value} {cs : List Nat} {GR : List Gr} (h : Mg B w0 w L (ballG s vw rw vm vs cs ++ GR)) {C : Nat} (hC : C ≤ B) : OwnI w C vs (natsI cs) := by
  have h1 := h.row 2 (x := ⟨vs, 2, 1, cs.length, i64s (natsI cs)⟩) rfl
  have h2 := ownRow_less h1 hC
  show _
  rw [OwnI, natsI_len]
  exact h2

set_option maxRecDepth 100000 in
set_option maxHeartbeats 4000000 in
theorem implBallOf_any (m : Mch) (hwf : m.Wf) (r : Int) (w : World) :
    Calls Try.prog 46 #[.agg m.cells.toArray, .int .i64 r] w (RetII (ballX m r).1 (ballX m r).2 w) := by
  have hM0 := (Mg.start w).alloc m.cells.toArray 29
  have hm := hM0.mach 0 rfl
  have HBO := Lib.hid (ballOf_any m hwf r (w.alloc (.cells m.cells.toArray 29)))
  have HB0 := Lib.hid hM0.below
  clear hM0
  go_enter Try.func46, Try.ntmps46
  go_wp2_with ((with_reducible refine ld_mach ?_ (.tmp 2) ?_ (w.heap.size) (0) ?_ m hm hwf ?_); exact rfl; exact rfl; exact rfl)
  refine HBO.out.mono ?_
  intro e w1 hR
  clear HBO hm
  cases hb : ballI m r with
  | error c =>
    rw [hb] at hR
    obtain ⟨hc, hb1, p, rfl⟩ := hR
    have HD := Lib.hid (ballX_err hb)
    have HB1 := Lib.hid (HB0.out.trans (hb1.mono HB0.out.size))
    have j1 : (c != 0) = true := by simpa using hc
    have HN : Hid (OwnII w1 w.heap.size (.slice none 0 0) []) := OwnII.nil _ _ HB1.out.size
    clear hb hb1 hc
    go_wp2_with fail
    go_ret2
    rw [HD.out]
    exact ⟨_, rfl, HB1.out, HN.out⟩
  | ok y =>
    obtain ⟨s, st⟩ := y
    rw [hb] at hR
    obtain ⟨b, rfl, hBA⟩ := hR
    have HD := Lib.hid (ballX_ok hb)
    have hBA2 := hBA.since HB0.out
    have HB1 := Lib.hid hBA2.below
    obtain ⟨w0, G, ga, gc, vw, vm, vs, rw, k1, k2, k3, k4, k5⟩ := hBA2
    have c2 := (k5.at 0 rfl).cell' (i := 2) rfl
    have HO := Lib.hid (k5.ballRows k4 k1.size)
    clear hb hBA k1 k2 k3 k4 k5
    go_wp2_with fail
    go_ret2
    rw [HD.out]
    exact ⟨_, rfl, HB1.out, HO.out⟩

set_option maxRecDepth 100000 in
set_option maxHeartbeats 4000000 in
theorem implSphereSizes_any (m : Mch) (hwf : m.Wf) (r : Int) (w : World) :
    Calls Try.prog 44 #[.agg m.cells.toArray, .int .i64 r] w (RetI (sphX m r).1 (sphX m r).2 w) := by
  have hM0 := (Mg.start w).alloc m.cells.toArray 29
  have hm := hM0.mach 0 rfl
  have HBO := Lib.hid (ballOf_any m hwf r (w.alloc (.cells m.cells.toArray 29)))
  have HB0 := Lib.hid hM0.below
  clear hM0
  go_enter Try.func44, Try.ntmps44
  go_wp2_with ((with_reducible refine ld_mach ?_ (.tmp 2) ?_ (w.heap.size) (0) ?_ m hm hwf ?_); exact rfl; exact rfl; exact rfl)
  refine HBO.out.mono ?_
  intro e w1 hR
  clear HBO hm
  cases hb : ballI m r with
  | error c =>
    rw [hb] at hR
    obtain ⟨hc, hb1, p, rfl⟩ := hR
    have HD := Lib.hid (sphX_err hb)
    have HB1 := Lib.hid (HB0.out.trans (hb1.mono HB0.out.size))
    have j1 : (c != 0) = true := by simpa using hc
    have HN : Hid (OwnI w1 w.heap.size (.slice none 0 0) []) := OwnI.nil _ _
    clear hb hb1 hc
    go_wp2_with fail
    go_ret2
    rw [HD.out]
    exact ⟨_, rfl, HB1.out, HN.out⟩
  | ok y =>
    obtain ⟨s, st⟩ := y
    rw [hb] at hR
    obtain ⟨b, rfl, hBA⟩ := hR
    have HD := Lib.hid (sphX_ok hb)
    have hBA2 := hBA.since HB0.out
    have HB1 := Lib.hid hBA2.below
    obtain ⟨w0, G, ga, gc, vw, vm, vs, rw, k1, k2, k3, k4, k5⟩ := hBA2
    have c5 := (k5.at 0 rfl).cell' (i := 5) rfl
    have HO := Lib.hid (k5.ballSph k1.size)
    clear hb hBA k1 k2 k3 k4 k5
    go_wp2_with fail
    go_ret2
    rw [HD.out]
    exact ⟨_, rfl, HB1.out, HO.out⟩
end Go.Proofs.Yteagecoiijhflaa

/- BallOf and SphereSizes of the reference. -/
namespace Go.Proofs.Yteagecoiijhflaa
open Go.RowKit
set_option linter.unusedVariables false
set_option linter.unusedSimpArgs false

theorem Mg.ballRowsS {B : Nat} {w0 w : World} {L : List (Nat × List Value × TypeId)} {s : Bs} {vw vm vs : Value} {rw : List Value} {cs : List Nat} (h : Mg B w0 w L (ballS s vw rw vm vs cs)) (hl : rw.length = s.length) {C : Nat} (hC : C ≤ B) : OwnII w C vw (s.map (·.1)) := by
  have h1 : Mg B w0 w [] (((vw, 26, rw) :: rowG rw (s.map (·.1))).map Gr.of) := by
    have h2 := h.sub (List.nil_sublist L)
    have e : Gr.of (vw, 26, rw) = ⟨vw, 26, 1, s.length, rw⟩ := by simp [Gr.of, hl]
    rw [List.map_cons, e]
    refine h2.subG ?_
    rw [ballS]
    exact List.Sublist.cons_cons _ (List.Sublist.cons _ (List.Sublist.cons _ (List.Sublist.refl _)))
  exact OwnII.of (h1.mm.less hC) (by rw [hl, List.length_map])

set_option maxRecDepth 100000 in
set_option maxHeartbeats 400000 in
theorem specBallOf_any (m : Mch) (hwf : m.Wf) (r : Int) (w : World) :
    Calls Try.prog 45 #[.agg m.cells.toArray, .int .i64 r] w (RetII (ballX m r).1 (ballX m r).2 w) := by
  have HI3 : Hid (∀ a b c : Value, (Try.prog.info? 90).map (·.size) = some [a, b, c].length) := by
    have h : (Try.prog.info? 90).map (·.size) = some 3 := by kernel_rfl
    exact fun _ _ _ => h
  have hM0 := (Mg.start w).alloc m.cells.toArray 29
  have hm := hM0.mach 0 rfl
  have HBO := Lib.hid (l10Of_any m hwf r (w.alloc (.cells m.cells.toArray 29)))
  have HB0 := Lib.hid hM0.below
  clear hM0
  go_enter Try.func45, Try.ntmps45
  go_wp2_with ((with_reducible refine ld_mach ?_ (.tmp 2) ?_ (w.heap.size) (0) ?_ m hm hwf ?_); exact rfl; exact rfl; exact rfl)
  refine HBO.out.mono ?_
  rintro e w1 ⟨hb1, hR⟩
  have HB1 := Lib.hid (HB0.out.trans (hb1.mono HB0.out.size))
  clear HBO hm
  cases hb : ballI m r with
  | error c =>
    rw [hb] at hR
    obtain ⟨hc, g, x, y, z, rfl, k1, k2, k3⟩ := hR
    have HD := Lib.hid (ballX_err hb)
    have j1 : (c != 0) = true := by simpa using hc
    have hM1 := (((Mg.start w).call HB1.out).alloc #[.slice none 0 0, .slice none 0 0, .slice none 0 0] 90)
    have ht := (hM1.at 0 rfl).there 0 3 (by simp)
    have HM2 := Lib.hid (hM1.setAll 0 rfl (vs := [x, y, z]) rfl)
    have HON : Hid (∀ v ∈ [x, y, z], v.oneCell' = true) := by show ∀ v ∈ _, _; simp [k1, k2, k3]
    clear hb hb1 hc hM1 k1 k2 k3
    go_wp2_with ((with_reducible refine st_row ?_ 90 (.tmp 6) (.tmp 13) ?_ w1.heap.size 0 [x, y, z] ?_ ?_ ?_ (HI3.out _ _ _) HON.out ?_); exact rfl; exact rfl; exact rfl; exact rfl; exact ht)
    go_ret2
    rw [HD.out]
    exact ⟨_, rfl, HM2.out.below, OwnII.nil _ _ HM2.out.below.size⟩
  | ok p =>
    obtain ⟨s, st⟩ := p
    rw [hb] at hR
    obtain ⟨B, ga, gc, vw, vm, vs, rw, rfl, hB, -, hl, hM⟩ := hR
    have HD := Lib.hid (ballX_ok hb)
    obtain ⟨aw, cw, rfl⟩ := hM.sl 0 (v := vw) rfl
    obtain ⟨am, cm, rfl⟩ := hM.sl 1 (v := vm) rfl
    obtain ⟨av, cv, rfl⟩ := hM.sl 2 (v := vs) rfl
    have hM1 := hM.alloc #[.slice none 0 0, .slice none 0 0, .slice none 0 0] 90
    have ht := (hM1.at 0 rfl).there 0 3 (by simp)
    have HM2 : Hid (Mg B w1 ((w1.alloc (.cells #[.slice none 0 0, .slice none 0 0, .slice none 0 0] 90)).setCells w1.heap.size 0 [.slice aw s.length cw, .slice am s.length cm, .slice av st.length cv]) [(w1.heap.size, [.slice aw s.length cw, .slice am s.length cm, .slice av st.length cv], 90)] (ballS s (.slice aw s.length cw) rw (.slice am s.length cm) (.slice av st.length cv) st)) := hM1.setAll 0 rfl (vs := [.slice aw s.length cw, .slice am s.length cm, .slice av st.length cv]) rfl
    have c0 := (HM2.out.at 0 rfl).cell' (i := 0) rfl
    have HO : Hid (OwnII ((w1.alloc (.cells #[.slice none 0 0, .slice none 0 0, .slice none 0 0] 90)).setCells w1.heap.size 0 [.slice aw s.length cw, .slice am s.length cm, .slice av st.length cv]) w.heap.size (.slice aw s.length cw) (s.map (·.1))) := HM2.out.ballRowsS hl (by simp only [World.size_alloc] at hB; omega)
    have HBB : Hid (Below w.heap.size w ((w1.alloc (.cells #[.slice none 0 0, .slice none 0 0, .slice none 0 0] 90)).setCells w1.heap.size 0 [.slice aw s.length cw, .slice am s.length cm, .slice av st.length cv])) := below_setCells HB1.out.size _ (HB1.out.trans ((Below.refl _ _).alloc HB1.out.size _)) 0
    clear hb hb1 hM1 hM hl hB HM2
    go_wp2_with ((with_reducible refine st_row ?_ 90 (.tmp 6) (.tmp 13) ?_ w1.heap.size 0 [.slice aw s.length cw, .slice am s.length cm, .slice av st.length cv] ?_ ?_ ?_ (HI3.out _ _ _) ?_ ?_); exact rfl; exact rfl; exact rfl; exact rfl; exact ht; (simp [Value.oneCell']))
    go_ret2
    rw [HD.out]
    exact ⟨_, rfl, HBB.out, HO.out⟩
end Go.Proofs.Yteagecoiijhflaa

/- Relations, plain; whether two generators may follow each other, both sides. -/
namespace Go.Proofs.Yteagecoiijhflaa
open Go.RowKit
set_option linter.unusedVariables false
set_option linter.unusedSimpArgs false

end Go.Proofs.Yteagecoiijhflaa

/- The relations that go on with a word: the program's search. -/
namespace Go.Proofs.Yteagecoiijhflaa
open Go.RowKit
set_option linter.unusedVariables false
set_option linter.unusedSimpArgs false

end Go.Proofs.Yteagecoiijhflaa

/- The relations that go on with a word: the program's search, all words; RelationsOf of the program. -/
namespace Go.Proofs.Yteagecoiijhflaa
open Go.RowKit
set_option linter.unusedVariables false
set_option linter.unusedSimpArgs false

end Go.Proofs.Yteagecoiijhflaa

/- The words of the reference's relations, plain. -/
namespace Go.Proofs.Yteagecoiijhflaa
open Go.RowKit
set_option linter.unusedVariables false
set_option linter.unusedSimpArgs false

end Go.Proofs.Yteagecoiijhflaa

/- How many relations there are. -/
namespace Go.Proofs.Yteagecoiijhflaa
open Go.RowKit
set_option linter.unusedVariables false
set_option linter.unusedSimpArgs false

theorem sumLen_fit {rows : List Wd} {n : Nat} (h : ∀ w ∈ rows, w.length ≤ n) : ∀ i, i ≤ rows.length → sumLen rows i ≤ n * i
  | 0, _ => by simp [sumLen]
  | i + 1, hi => by
    have h1 := sumLen_fit h i (by omega)
    rw [sumLen_succ rows i (by omega), Nat.mul_succ]
    have h2 := h (rows[i]?.getD []) (by rw [List.getElem?_eq_getElem (by omega), Option.getD_some]; exact List.getElem_mem _)
    omega
theorem rows_fit {rows : List Wd} {n k : Nat} (h : ∀ w ∈ rows, w.length ≤ n) (hk : rows.length ≤ k) (h1 : k ≤ 100000) (h2 : n * k ≤ 200000) (h3 : n ≤ 2000000) :
    rows.length ≤ 100000 ∧ sumLen rows rows.length ≤ 200000 ∧ ∀ i : Nat, (rows[i]?.getD []).length ≤ 2000000 := by
  refine ⟨by omega, Nat.le_trans (sumLen_fit h _ (Nat.le_refl _)) (Nat.le_trans (Nat.mul_le_mul_left _ hk) h2), fun i => ?_⟩
  by_cases hi : i < rows.length
  · rw [List.getElem?_eq_getElem hi, Option.getD_some]
    exact Nat.le_trans (h _ (List.getElem_mem hi)) h3
  · rw [List.getElem?_eq_none (by omega)]; simp
end Go.Proofs.Yteagecoiijhflaa

/- How large a ball is. -/
namespace Go.Proofs.Yteagecoiijhflaa
open Go.RowKit
set_option linter.unusedVariables false
set_option linter.unusedSimpArgs false

theorem ballI_fit {m : Mch} {r : Int} {s : Bs} {st : List Nat} (h : ballI m r = .ok (s, st)) : BsOk m 5 s ∧ st.length ≤ 6 ∧ 1 ≤ s.length := by
  unfold ballI at h
  by_cases h1 : machP m = false
  · rw [if_pos h1] at h; cases h
  · rw [if_neg h1] at h
    by_cases h2 : inR r 0 5 = false
    · rw [if_pos h2] at h; cases h
    · rw [if_neg h2] at h
      by_cases h3 : (genI m).2 ≠ 0
      · rw [if_pos h3] at h; cases h
      · rw [if_neg h3] at h
        have hl : r.toNat ≤ 5 := by
          simp only [Bool.not_eq_false] at h2
          simp only [inR, Bool.and_eq_true, decide_eq_true_eq] at h2
          omega
        obtain ⟨k1, k2, -⟩ := ballR_ok (genI_gw m) _ h
        exact ⟨k1.less hl, by omega, ballR_pos _ h⟩
theorem ballX_fit (m : Mch) (r : Int) : (ballX m r).1.length ≤ 100000 ∧ sumLen (ballX m r).1 (ballX m r).1.length ≤ 200000 ∧ ∀ i : Nat, ((ballX m r).1[i]?.getD []).length ≤ 2000000 := by
  cases h : ballI m r with
  | error c =>
    rw [ballX_err h]
    exact ⟨by simp, by simp [sumLen], fun i => by simp⟩
  | ok p =>
    obtain ⟨s, st⟩ := p
    rw [ballX_ok h]
    obtain ⟨k1, -, -⟩ := ballI_fit h
    refine rows_fit (n := 5) (k := 200) (fun w hw => ?_) (by simp only [List.length_map]; exact k1.many) (by omega) (by omega) (by omega)
    obtain ⟨p, hp, rfl⟩ := List.mem_map.1 hw
    exact k1.len p hp
theorem sphX_len (m : Mch) (r : Int) : (sphX m r).1.length ≤ 100000 := by
  cases h : ballI m r with
  | error c => rw [sphX_err h]; simp
  | ok p =>
    obtain ⟨s, st⟩ := p
    rw [sphX_ok h]
    obtain ⟨-, k2, -⟩ := ballI_fit h
    simp only [natsI_len, cntB_len]
    omega
end Go.Proofs.Yteagecoiijhflaa
