import Derived.Test.YteagecoiijhflaaYBall24
import Derived.Test.YteagecoiijhflaaYBall10
import Derived.Test.YteagecoiijhflaaYBall13
/- The sizes of the spheres, plain. -/
namespace Go.Proofs.Yteagecoiijhflaa
open Go.RowKit
set_option linter.unusedVariables false
set_option linter.unusedSimpArgs false

/-- where the sphere behind the start number i begins -/
def nextB (st : List Nat) (n i : Nat) : Nat := if i + 1 < st.length then st[i + 1]?.getD 0 else n
theorem cntB_get : ∀ (st : List Nat) (n i : Nat), i < st.length → (cntB st n)[i]?.getD 0 = nextB st n i - st[i]?.getD 0
  | [], n, i, h => by simp at h
  | [a], n, 0, h => by simp [cntB, nextB]
  | [a], n, i + 1, h => by simp at h
  | a :: b :: r, n, 0, h => by simp [cntB, nextB]
  | a :: b :: r, n, i + 1, h => by
    have h1 := cntB_get (b :: r) n i (by simpa using h)
    simp only [cntB, nextB, List.getElem?_cons_succ, List.length_cons] at h1 ⊢
    rw [h1]
    by_cases c : i + 1 < r.length + 1
    · rw [if_pos c, if_pos (by omega)]
    · rw [if_neg c, if_neg (by omega)]
def MonoB (st : List Nat) (n : Nat) : Prop := ∀ i, i < st.length → st[i]?.getD 0 ≤ nextB st n i
theorem MonoB.snoc {st : List Nat} {k n : Nat} (h : MonoB st k) (hk : k ≤ n) : MonoB (st ++ [k]) n := fun i hi => by
  rw [List.length_append, List.length_singleton] at hi
  unfold nextB
  rw [List.length_append, List.length_singleton]
  by_cases c : i < st.length
  · have h1 := h i c
    unfold nextB at h1
    rw [List.getElem?_append_left c, if_pos (by omega)]
    by_cases c2 : i + 1 < st.length
    · rw [if_pos c2] at h1
      rw [List.getElem?_append_left c2]; exact h1
    · rw [if_neg c2] at h1
      rw [List.getElem?_append_right (by omega), show i + 1 - st.length = 0 by omega]
      exact h1
  · have e : i = st.length := by omega
    subst e
    rw [List.getElem?_append_right (Nat.le_refl _), if_neg (by omega), Nat.sub_self]
    exact hk
theorem ballR_mono {m : Mch} {gs : List Int} (r : Nat) : ∀ {s : Bs} {st : List Nat}, ballR m gs r = .ok (s, st) → MonoB st s.length := by
  induction r with
  | zero =>
    intro s st h
    rw [ballR_zero] at h
    obtain ⟨hp, rfl⟩ := beginB_ok m h
    intro i hi
    have e : i = 0 := by simpa using hi
    subst e
    simp
  | succ r ih =>
    intro s st h
    rw [ballR_succ] at h
    obtain ⟨s1, st1, hb, hgr, rfl⟩ := stepB_ok m gs _ h
    obtain ⟨R, hR⟩ := growS_pre _ _ _ hgr
    exact (ih hb).snoc (by rw [hR, List.length_append]; omega)
set_option maxRecDepth 100000 in
set_option maxHeartbeats 400000 in
theorem specSphereSizes_any (m : Mch) (hwf : m.Wf) (r : Int) (w : World) :
    Calls Try.prog 43 #[.agg m.cells.toArray, .int .i64 r] w (RetI (sphX m r).1 (sphX m r).2 w) := by
  have HI3 : Hid (∀ a b c : Value, (Try.prog.info? 90).map (·.size) = some [a, b, c].length) := by
    have h : (Try.prog.info? 90).map (·.size) = some 3 := by kernel_rfl
    exact fun _ _ _ => h
  have hM0 := (Mg.start w).alloc m.cells.toArray 29
  have hm := hM0.mach 0 rfl
  have HBO := Lib.hid (l10Of_any m hwf r (w.alloc (.cells m.cells.toArray 29)))
  have HB0 := Lib.hid hM0.below
  clear hM0
  go_enter Try.func43, Try.ntmps43
  go_wp2_with ((with_reducible refine ld_mach ?_ (.tmp 2) ?_ (w.heap.size) (0) ?_ m hm hwf ?_); exact rfl; exact rfl; exact rfl)
  refine HBO.out.mono ?_
  rintro e w1 ⟨hb1, hR⟩
  have HB1 := Lib.hid (HB0.out.trans (hb1.mono HB0.out.size))
  clear HBO hm
  cases hb : ballI m r with
  | error c =>
    rw [hb] at hR
    obtain ⟨hc, g, x, y, z, rfl, k1, k2, k3⟩ := hR
    have HD := Lib.hid (sphX_err hb)
    have j1 : (c != 0) = true := by simpa using hc
    have hM1 := (((Mg.start w).call HB1.out).alloc #[.slice none 0 0, .slice none 0 0, .slice none 0 0] 90)
    have ht := (hM1.at 0 rfl).there 0 3 (by simp)
    have HM2 := Lib.hid (hM1.setAll 0 rfl (vs := [x, y, z]) rfl)
    have HON : Hid (∀ v ∈ [x, y, z], v.oneCell' = true) := by show ∀ v ∈ _, _; simp [k1, k2, k3]
    clear hb hb1 hc hM1 k1 k2 k3
    go_wp2_with ((with_reducible refine st_row ?_ 90 (.tmp 6) (.tmp 16) ?_ w1.heap.size 0 [x, y, z] ?_ ?_ ?_ (HI3.out _ _ _) HON.out ?_); exact rfl; exact rfl; exact rfl; exact rfl; exact ht)
    go_ret2
    rw [HD.out]
    exact ⟨_, rfl, HM2.out.below, OwnI.nil _ _⟩
  | ok p =>
    obtain ⟨s, st⟩ := p
    rw [hb] at hR
    obtain ⟨B, ga, gc, vw, vm, vs, rw, rfl, hB, -, hl, hM⟩ := hR
    have HD := Lib.hid (sphX_ok hb)
    obtain ⟨k1, k2, k3⟩ := ballI_fit hb
    have hs2 := k1.many
    have HMO2 : MonoB st s.length ∧ 1 ≤ st.length ∧ ∀ i ∈ st, i ≤ s.length := by
      have h := hb
      unfold ballI at h
      by_cases h1 : machP m = false
      · rw [if_pos h1] at h; cases h
      · rw [if_neg h1] at h
        by_cases h2 : inR r 0 5 = false
        · rw [if_pos h2] at h; cases h
        · rw [if_neg h2] at h
          by_cases h3 : (genI m).2 ≠ 0
          · rw [if_pos h3] at h; cases h
          · rw [if_neg h3] at h; exact ⟨ballR_mono _ h, by have := (ballR_ok (genI_gw m) _ h).2.1; omega, (ballR_ok (genI_gw m) _ h).2.2⟩
    have HMO := Lib.hid HMO2.1
    have hs1 := HMO2.2.1
    have HSL : Hid (∀ i, st[i]?.getD 0 ≤ s.length) := fun i => by
      by_cases h : i < st.length
      · rw [List.getElem?_eq_getElem h, Option.getD_some]; exact HMO2.2.2 _ (List.getElem_mem h)
      · rw [List.getElem?_eq_none (by omega)]; exact Nat.zero_le _
    clear HMO2
    obtain ⟨aw, cw, rfl⟩ := hM.sl 0 (v := vw) rfl
    obtain ⟨am, cm, rfl⟩ := hM.sl 1 (v := vm) rfl
    obtain ⟨av, cv, rfl⟩ := hM.sl 2 (v := vs) rfl
    have hM1 := hM.alloc #[.slice none 0 0, .slice none 0 0, .slice none 0 0] 90
    have ht := (hM1.at 0 rfl).there 0 3 (by simp)
    have HM2 : Hid (Mg B w1 ((w1.alloc (.cells #[.slice none 0 0, .slice none 0 0, .slice none 0 0] 90)).setCells w1.heap.size 0 [.slice aw s.length cw, .slice am s.length cm, .slice av st.length cv]) [(w1.heap.size, [.slice aw s.length cw, .slice am s.length cm, .slice av st.length cv], 90)] (ballS s (.slice aw s.length cw) rw (.slice am s.length cm) (.slice av st.length cv) st)) := hM1.setAll 0 rfl (vs := [.slice aw s.length cw, .slice am s.length cm, .slice av st.length cv]) rfl
    have HBW : Hid (w.heap.size ≤ B) := by show _ ≤ _; simp only [World.size_alloc] at hB; omega
    have HBB : Hid (∀ W, Below B w1 W → Below w.heap.size w W) := fun W hW => HB1.out.trans (hW.mono HBW.out)
    clear hb hb1 hM1 hM hl hB k1
    generalize hb6 : w1.heap.size = b6 at *
    go_wp2_with ((with_reducible refine st_row ?_ 90 (.tmp 6) (.tmp 16) ?_ b6 0 [.slice aw s.length cw, .slice am s.length cm, .slice av st.length cv] ?_ ?_ ?_ (HI3.out _ _ _) ?_ ?_); exact rfl; exact rfl; exact rfl; exact rfl; exact ht; (simp [Value.oneCell']); clear ht; generalize (w1.alloc (.cells #[.slice none 0 0, .slice none 0 0, .slice none 0 0] 90)).setCells b6 0 [.slice aw s.length cw, .slice am s.length cm, .slice av st.length cv] = W2 at *)
    have HM3 : Hid (Mg B w1 (W2.alloc (.cells #[] 2)) [(b6, [.slice aw s.length cw, .slice am s.length cm, .slice av st.length cv], 90)] (⟨.slice (some ⟨W2.heap.size, 0, none⟩) 0 0, 2, 1, 0, i64s (natsI ((cntB st s.length).take 0))⟩ :: ballS s (.slice aw s.length cw) rw (.slice am s.length cm) (.slice av st.length cv) st)) := HM2.out.newOwn #[] 2 1 0 rfl (by omega)
    clear HM2
    obtain ⟨i0, iz, hi0, hz0, hz1, hz2, hz3⟩ := info_i64
    go_loopw [9, 10] (fun v9 iv wr => ∃ i : Nat, i ≤ st.length ∧ iv = .int .i64 (i : Int) ∧ Mg B w1 wr [(b6, [.slice aw s.length cw, .slice am s.length cm, .slice av st.length cv], 90)] (⟨v9, 2, 1, i, i64s (natsI ((cntB st s.length).take i))⟩ :: ballS s (.slice aw s.length cw) rw (.slice am s.length cm) (.slice av st.length cv) st)) (fun _ i _ => st.length - (intOf i).toNat)
    case atStart => exact ⟨0, Nat.zero_le _, rfl, HM3.out⟩
    case round =>
      clear HM3
      obtain ⟨i, hi, rfl, hM⟩ := hrel
      have ei : IntKind.i64.wrap ((i : Int) + 1) = (i : Int) + 1 := IntWalk.i64_in _ (by omega)
      have k60 := (hM.at 0 rfl).cell' (i := 0) rfl
      have k62 := (hM.at 0 rfl).cell' (i := 2) rfl
      obtain ⟨gv, cv2, e2, -⟩ := hM.room 3 (v := .slice av st.length cv) rfl (by omega)
      injection e2 with e2 _ e3
      subst e2 e3
      have HM := Lib.hid hM
      by_cases hlt : i < st.length
      · have hmo := HMO.out i hlt
        have hcg := cntB_get st s.length i hlt
        have hcl := cntB_len st s.length
        have HTK : Hid (i64s (natsI ((cntB st s.length).take (i + 1))) = i64s (natsI ((cntB st s.length).take i)) ++ [.int .i64 ((nextB st s.length i - st[i]?.getD 0 : Nat) : Int)]) := by
          show _ = _
          have e : (cntB st s.length).take (i + 1) = (cntB st s.length).take i ++ [nextB st s.length i - st[i]?.getD 0] := by
            rw [List.take_add_one, ← hcg, List.getElem?_eq_getElem (by rw [hcl]; exact hlt)]
            rfl
          rw [e]
          simp only [natsI, i64s, List.map_append, List.map_cons, List.map_nil]
        have c1 : wr.cell? ⟨gv, i, none⟩ = some (.int .i64 ((st[i]?.getD 0 : Nat) : Int)) := hM.cellAt (i := 3) rfl (i64s_at hlt rfl)
        have i1 : (0 : Int) ≤ (i : Int) := by omega
        have i2 : (i : Int) < (st.length : Int) := by omega
        have hst5 := HSL.out i
        have hst6 := HSL.out (i + 1)
        have e4 : ((i : Int) + 1).toNat = i + 1 := by omega
        have hle9 : i ≤ 1000000 := by omega
        clear hcg hcl
        by_cases hnx : i + 1 < st.length
        case' pos =>
          have hv : nextB st s.length i = st[i + 1]?.getD 0 := if_pos hnx
          have c2 : wr.cell? ⟨gv, i + 1, none⟩ = some (.int .i64 ((st[i + 1]?.getD 0 : Nat) : Int)) := hM.cellAt (i := 3) rfl (i64s_at hnx rfl)
          have i3 : (i : Int) + 1 < (st.length : Int) := by omega
          have i4 : (0 : Int) ≤ (i : Int) + 1 := by omega
        case' neg =>
          have hv : nextB st s.length i = s.length := if_neg hnx
          have i3 : ¬ ((i : Int) + 1 < (st.length : Int)) := by omega
        all_goals
          rw [hv] at hmo HTK
          generalize st[i + 1]?.getD 0 = q at *
          generalize st[i]?.getD 0 = p at *
        case' pos => have ek : IntKind.i64.wrap ((q : Int) - (p : Int)) = ((q - p : Nat) : Int) := by rw [IntWalk.i64_in _ (by omega)]; omega
        case' neg => have ek : IntKind.i64.wrap ((s.length : Int) - (p : Int)) = ((s.length - p : Nat) : Int) := by rw [IntWalk.i64_in _ (by omega)]; omega
        all_goals
          clear hM hv hnx
          go_wp2_with (at_builtin; refine Mg.appendO rfl (.tmp 46) (.tmp 54) 26 rfl HM.out 0 rfl Try.underlying26 hi0 hz0 hz1 rfl hz2 (by decide) [.int .i64 _] (us := #[_]) rfl rfl rfl wr.heap.size rfl rfl (by simp [Value.oneCell']) hle9 hz3 ?_)
          intro g7 c7 w7 hM7 hO7
          (try simp only [List.set_cons_zero] at hM7)
          rw [← HTK.out] at hM7
          have HM7 := Lib.hid hM7
          clear hM7 hO7 HM
          go_wp2_with fail
          go_roundw
          case rel => exact ⟨i + 1, by omega, by go_num, HM7.out⟩
          case measure => simp [intOf] <;> omega
      · have hi' : i = st.length := by omega
        have i2 : ¬ ((i : Int) < (st.length : Int)) := by omega
        have HO : Hid (OwnI wr w.heap.size u9 (natsI (cntB st s.length))) := by
          have h2 := ownRow_less (hM.row 0 rfl) HBW.out
          show OwnI _ _ _ _
          rw [OwnI, natsI_len, cntB_len]
          simp only at h2
          rw [hi', List.take_of_length_le (by rw [cntB_len]; omega)] at h2
          exact h2
        have HBB2 := Lib.hid (HBB.out _ hM.below)
        clear hM HM hi'
        go_wp2_with fail
        go_ret2
        rw [HD.out]
        exact ⟨_, rfl, HBB2.out, HO.out⟩
end Go.Proofs.Yteagecoiijhflaa

/- The shortest word of a ball, plain, and the program's search for it. -/
namespace Go.Proofs.Yteagecoiijhflaa
open Go.RowKit
set_option linter.unusedVariables false
set_option linter.unusedSimpArgs false

/-- the search for a machine, so many spheres left -/
def shortS (m : Mch) (gs : List Int) (M : Mch) : Nat → Bs × List Nat → Wd × Int
  | 0, x => if 0 ≤ posM (x.1.map (·.2)) M then ((x.1.map (·.1))[(posM (x.1.map (·.2)) M).toNat]?.getD [], 0) else ([], 4)
  | d + 1, x => if 0 ≤ posM (x.1.map (·.2)) M then ((x.1.map (·.1))[(posM (x.1.map (·.2)) M).toNat]?.getD [], 0) else match stepB m gs (.ok x) with
    | .error c => ([], c)
    | .ok y => shortS m gs M d y
theorem shortS_hit {m : Mch} {gs : List Int} {M : Mch} (d : Nat) {x : Bs × List Nat} (h : 0 ≤ posM (x.1.map (·.2)) M) : shortS m gs M d x = ((x.1.map (·.1))[(posM (x.1.map (·.2)) M).toNat]?.getD [], 0) := by
  cases d <;> (unfold shortS; rw [if_pos h])
theorem shortS_last {m : Mch} {gs : List Int} {M : Mch} {x : Bs × List Nat} (h : ¬ 0 ≤ posM (x.1.map (·.2)) M) : shortS m gs M 0 x = ([], 4) := by
  unfold shortS; rw [if_neg h]
theorem shortS_err {m : Mch} {gs : List Int} {M : Mch} {d : Nat} {x : Bs × List Nat} {c : Int} (h : ¬ 0 ≤ posM (x.1.map (·.2)) M) (h2 : stepB m gs (.ok x) = .error c) : shortS m gs M (d + 1) x = ([], c) := by
  rw [shortS, if_neg h, h2]
theorem shortS_next {m : Mch} {gs : List Int} {M : Mch} {d : Nat} {x y : Bs × List Nat} (h : ¬ 0 ≤ posM (x.1.map (·.2)) M) (h2 : stepB m gs (.ok x) = .ok y) : shortS m gs M (d + 1) x = shortS m gs M d y := by
  rw [shortS, if_neg h, h2]
def shortI (m : Mch) (g : Wd) (r : Int) : Wd × Int := if gwP m g = false then ([], 1) else if inR r 0 5 = false then ([], 2) else match newR m with
  | .error c => ([], c)
  | .ok x => match mwR m g with
    | none => ([], 3)
    | some M => shortS m (genI m).1 M r.toNat x
theorem shortI_bad {m : Mch} {g : Wd} {r : Int} (h : gwP m g = false) : shortI m g r = ([], 1) := if_pos h
theorem shortI_range {m : Mch} {g : Wd} {r : Int} (h : gwP m g = true) (h2 : inR r 0 5 = false) : shortI m g r = ([], 2) := by unfold shortI; rw [if_neg (by simp [h]), if_pos h2]
theorem shortI_new {m : Mch} {g : Wd} {r : Int} {c : Int} (h : gwP m g = true) (h2 : inR r 0 5 = true) (h3 : newR m = .error c) : shortI m g r = ([], c) := by unfold shortI; rw [if_neg (by simp [h]), if_neg (by simp [h2]), h3]
theorem shortI_none {m : Mch} {g : Wd} {r : Int} {x : Bs × List Nat} (h : gwP m g = true) (h2 : inR r 0 5 = true) (h3 : newR m = .ok x) (h4 : mwR m g = none) : shortI m g r = ([], 3) := by unfold shortI; rw [if_neg (by simp [h]), if_neg (by simp [h2]), h3, h4]
theorem shortI_some {m : Mch} {g : Wd} {r : Int} {x : Bs × List Nat} {M : Mch} (h : gwP m g = true) (h2 : inR r 0 5 = true) (h3 : newR m = .ok x) (h4 : mwR m g = some M) : shortI m g r = shortS m (genI m).1 M r.toNat x := by unfold shortI; rw [if_neg (by simp [h]), if_neg (by simp [h2]), h3, h4]
theorem shortS_len {m : Mch} {M : Mch} : ∀ (d k : Nat) (x : Bs × List Nat), ballR m (genI m).1 k = .ok x → ((shortS m (genI m).1 M d x).1).length ≤ k + d
  | 0, k, x, h => by
    by_cases c : 0 ≤ posM (x.1.map (·.2)) M
    · rw [shortS_hit 0 c]
      generalize (posM (x.1.map (·.2)) M).toNat = i
      obtain ⟨s, st⟩ := x
      have hb := (ballR_ok (genI_gw m) k h).1.len
      simp only [List.getElem?_map]
      cases e : s[i]? with
      | none => simp
      | some p => simpa using hb p (List.mem_of_getElem? e)
    · rw [shortS_last c]; simp
  | d + 1, k, x, h => by
    by_cases c : 0 ≤ posM (x.1.map (·.2)) M
    · rw [shortS_hit _ c]
      generalize (posM (x.1.map (·.2)) M).toNat = i
      obtain ⟨s, st⟩ := x
      have hb := (ballR_ok (genI_gw m) k h).1.len
      simp only [List.getElem?_map]
      cases e : s[i]? with
      | none => simp
      | some p => have := hb p (List.mem_of_getElem? e); simp only [Option.map_some, Option.getD_some]; omega
    · cases e : stepB m (genI m).1 (.ok x) with
      | error cc => rw [shortS_err c e]; simp
      | ok y =>
        rw [shortS_next c e]
        have := shortS_len (M := M) d (k + 1) y (by rw [ballR_succ, h, e])
        omega
theorem shortI_len (m : Mch) (g : Wd) (r : Int) : (shortI m g r).1.length ≤ 100 := by
  unfold shortI
  split
  · simp
  · rename_i h1
    split
    · simp
    · rename_i h2
      cases hn : newR m with
      | error c => simp
      | ok x =>
        cases hM : mwR m g with
        | none => simp
        | some M =>
          simp only
          have hp : machP m = true := by
            simp only [Bool.not_eq_false] at h1
            simp only [gwP, Bool.and_eq_true] at h1
            exact h1.1
          have := shortS_len (M := M) r.toNat 0 x (newR_zero hp hn)
          simp only [inR, Bool.not_eq_false, Bool.and_eq_true, decide_eq_true_eq] at h2
          omega
theorem idxN_lt {p : Nat → Bool} {n : Nat} (h : 0 ≤ idxN p n) : (idxN p n).toNat < n := by
  unfold idxN at h ⊢
  cases e : (List.range n).find? p with
  | none => rw [e] at h; simp at h
  | some k =>
    have := List.mem_of_find?_eq_some e
    simp only [Int.toNat_natCast]
    simpa using this
theorem Mg.wordV {B : Nat} {w0 w : World} {L : List (Nat × List Value × TypeId)} {s : Bs} {vw vm vs : Value} {rw : List Value} {cs : List Nat} {GR : List Gr} (h : Mg B w0 w L (ballG s vw rw vm vs cs ++ GR)) (hl : rw.length = s.length) {i : Nat} (hi : i < s.length) :
    ∃ gw cw a c, vw = .slice (some ⟨gw, 0, none⟩) s.length cw ∧ w.cell? ⟨gw, i, none⟩ = some (.slice a ((s.map (·.1))[i]?.getD []).length c) ∧ OwnI w B (.slice a ((s.map (·.1))[i]?.getD []).length c) ((s.map (·.1))[i]?.getD []) := by
  obtain ⟨gw, cw, rfl, -⟩ := h.room 0 (v := vw) rfl (by omega)
  have hO := h.wordAt hl hi
  obtain ⟨r, hr⟩ : ∃ r, rw[i]? = some r := ⟨_, List.getElem?_eq_getElem (by rw [hl]; exact hi)⟩
  rw [hr, Option.getD_some] at hO
  obtain ⟨a, c, rfl, -⟩ := hO.form
  have hc : w.cell? ⟨gw, i, none⟩ = some _ := h.cellAt (i := 0) rfl hr
  rw [← List.getElem?_map] at hc hO
  exact ⟨gw, cw, a, c, rfl, hc, hO⟩

set_option maxRecDepth 100000 in
set_option maxHeartbeats 400000 in
theorem shortest_any (m : Mch) (hwf : m.Wf) (a : Option Addr) (g : Wd) (c : Nat) (hl : g.length ≤ 1100000) (r : Int) (w : World) (hI : IntsAt w a g) :
    Calls Try.prog 77 #[.agg m.cells.toArray, .slice a g.length c, .int .i64 r] w (RetI (shortI m g r).1 (shortI m g r).2 w) := by
  have HMX := Lib.hid (show Try.prog.follows .mixedOrders = true by kernel_rfl)
  have hM0 := (Mg.start w).alloc m.cells.toArray 29
  have hm := hM0.mach 0 rfl
  have HIG := Lib.hid (IsGroupWord_any m hwf a g c hl _ (hI.keep hM0.below))
  have HI := Lib.hid hI
  have HM0 := Lib.hid hM0
  clear hM0 hI
  go_enter Try.func77, Try.ntmps77
  go_wp2_with ((with_reducible refine ld_mach ?_ (.tmp 3) ?_ (w.heap.size) (0) ?_ m hm hwf ?_); exact rfl; exact rfl; exact rfl)
  refine HIG.out.mono ?_
  rintro e w1 ⟨rfl, hb1⟩
  have hM1 := HM0.out.call hb1
  clear HM0 HIG hm hb1
  cases hp : gwP m g with
  | false =>
    have HD := Lib.hid (shortI_bad (r := r) hp)
    have hb := hM1.below
    clear hM1 hp
    go_wp2_with fail
    go_ret2
    rw [HD.out]
    exact ⟨_, rfl, hb, OwnI.nil _ _⟩
  | true =>
    have HRW := Lib.hid (within_any r 0 5)
    cases hr : inR r 0 5 with
    | false =>
      have HD := Lib.hid (shortI_range hp hr)
      have hb := hM1.below
      rw [hr] at HRW
      clear hM1 hp hr
      go_wp2_with (go_at_call 59; refine (HRW.out _).mono ?_; rintro e w' ⟨rfl, rfl⟩)
      go_ret2
      rw [HD.out]
      exact ⟨_, rfl, hb, OwnI.nil _ _⟩
    | true =>
      obtain ⟨n, rfl⟩ : ∃ n : Nat, r = (n : Int) := ⟨r.toNat, by simp only [inR, Bool.and_eq_true, decide_eq_true_eq] at hr; omega⟩
      have hn : n ≤ 5 := by simp only [inR, Bool.and_eq_true, decide_eq_true_eq] at hr; omega
      obtain ⟨hok, hgw, h40⟩ := gwP_gw hp
      have hs16 := hok.s_le
      have HOK := Lib.hid hok
      have HNE : Hid (∀ c, newR m = .error c → shortI m g (n : Int) = ([], c)) := fun c h => shortI_new hp hr h
      have HNN : Hid (∀ x, newR m = .ok x → mwR m g = none → shortI m g (n : Int) = ([], 3)) := fun x h h2 => shortI_none hp hr h h2
      have HNS : Hid (∀ x M, newR m = .ok x → mwR m g = some M → shortI m g (n : Int) = shortS m (genI m).1 M n x) := fun x M h h2 => shortI_some hp hr h h2
      have HNZ : Hid (∀ x, newR m = .ok x → ballR m (genI m).1 0 = .ok x) := fun x h => newR_zero (by simp only [gwP, Bool.and_eq_true] at hp; exact hp.1) h
      have HNB := Lib.hid (newBall_any m hwf w1)
      have HGW := Lib.hid (genI_gw m)
      have hgl := genI_len m hs16
      have HWM := Lib.hid (fun M h => mwT_wf (M := M) hok hwf hgw h)
      have hm1 := hM1.mach 0 rfl
      have HB1 := Lib.hid hM1.below
      have HGA : Hid (∀ wr b s st n, n ≤ 900 → BsOk m n s → 1 ≤ s.length → (∀ i ∈ st, i ≤ s.length) → st.length ≤ 1000 → BallAt w wr m (genI m).1 b s (lastN st) (cntB st s.length) → _) := fun wr b s st n k1 k2 k3 k4 k5 h => ballGrow_any m hwf hok (genI m).1 HGW.out hgl w wr b s st n k1 k2 k3 k4 k5 h
      have HMA : Hid (∀ G W, GrpR W G m → Below w.heap.size w W → Calls Try.prog 116 #[.pointer (some ⟨G, 0, none⟩), .slice a g.length c] W (RetM (mwR m g) W)) := fun G W h1 h2 => machine_any G m hwf hok a g c hgw (by omega) W h1 (HI.out.keep h2)
      have HBW : Hid (∀ k s, BsOk m k s → ∀ M ∈ s.map (·.2), M.Wf) := fun k s h => h.wf hok hwf
      rw [hr] at HRW
      clear hp hok hM1 hr hgw
      go_wp2_with (first | (go_at_call 59; refine (HRW.out _).mono ?_; rintro e w' ⟨rfl, rfl⟩) | ((with_reducible refine ld_mach ?_ (.tmp 3) ?_ (w.heap.size) (0) ?_ m hm1 hwf ?_); exact rfl; exact rfl; exact rfl))
      refine HNB.out.mono ?_
      intro e w2 hR2
      generalize hgs : (genI m).1 = gs at *
      cases hnr : newR m with
      | error c =>
        rw [hnr] at hR2
        obtain ⟨hc, hb2, p, rfl⟩ := hR2
        have HD := Lib.hid (HNE.out c hnr)
        have HB2 := Lib.hid (HB1.out.trans (hb2.mono HB1.out.size))
        have j2 : (c != 0) = true := by simpa using hc
        clear HNB hnr hm1 hb2 hc
        go_wp2_with fail
        go_ret2
        rw [HD.out]
        exact ⟨_, rfl, HB2.out, OwnI.nil _ _⟩
      | ok x =>
        obtain ⟨s0, st0⟩ := x
        rw [hnr] at hR2
        obtain ⟨b, rfl, hBA⟩ := hR2
        rw [hgs] at hBA
        have HB0 := Lib.hid (HNZ.out _ hnr)
        have HSN : Hid (mwR m g = none → shortI m g (n : Int) = ([], 3)) := fun h => HNN.out _ hnr h
        have HSS : Hid (∀ M, mwR m g = some M → shortI m g (n : Int) = shortS m gs M (n - 0) (s0, st0)) := fun M h => HNS.out _ M hnr h
        have HBA := Lib.hid (hBA.since HB1.out)
        have HBO : Hid (∀ k s st, ballR m gs k = .ok (s, st) → BsOk m k s ∧ st.length = k + 1 ∧ (∀ i ∈ st, i ≤ s.length) ∧ 1 ≤ s.length) := fun k s st h => ⟨(ballR_ok HGW.out k h).1, (ballR_ok HGW.out k h).2.1, (ballR_ok HGW.out k h).2.2, ballR_pos k h⟩
        have HSU : Hid (∀ k, ballR m gs (k + 1) = stepB m gs (ballR m gs k)) := fun k => ballR_succ m gs k
        clear HNB hnr hm1 hBA HNE HNN HNS HNZ hgs
        go_wp2_with fail
        go_loopw [10] (fun iv wr => ∃ (i : Nat) (s : Bs) (st : List Nat), i ≤ n ∧ iv = .int .i64 (i : Int) ∧ Hid (ballR m gs i = .ok (s, st)) ∧ Hid (BallAt w wr m gs b s (lastN st) (cntB st s.length)) ∧ Hid (∀ M, mwR m g = some M → shortI m g (n : Int) = shortS m gs M (n - i) (s, st))) (fun i _ => n - (intOf i).toNat)
        case atStart => exact ⟨0, s0, st0, Nat.zero_le _, rfl, HB0.out, HBA.out, HSS.out⟩
        case round =>
          clear HBA HB0 HSS
          obtain ⟨i, s, st, hi, rfl, HS, HBA, HSS⟩ := hrel
          have ei : IntKind.i64.wrap ((i : Int) + 1) = (i : Int) + 1 := IntWalk.i64_in _ (by omega)
          obtain ⟨k1, k2, k3, k4⟩ := HBO.out i s st HS.out
          have HK : Hid (BsOk m i s ∧ (∀ i ∈ st, i ≤ s.length) ∧ st.length ≤ 1000) := ⟨k1, k3, by omega⟩
          have hs2 := k1.many
          have HMS := Lib.hid (HBW.out i s k1)
          clear k1 k2 k3
          obtain ⟨w0, G, ga, gc, vw, vm, vs, rw, q1, q2, q3, q4, q5⟩ := HBA.out
          have c0 := (q5.at 0 rfl).cell' (i := 0) rfl
          have HMW := Lib.hid (HMA.out G wr (q2.keep q5.below) HBA.out.below)
          have HM := Lib.hid q5
          have HQ : Hid (Below w.heap.size w w0 ∧ GrpR w0 G m ∧ IntsAt w0 ga gs ∧ rw.length = s.length) := ⟨q1, q2, q3, q4⟩
          clear q1 q2 q3 q4 q5 HBA
          go_wp2_with fail
          refine HMW.out.mono ?_
          rintro e w5 ⟨hb5, hR5⟩
          have hM5 := (HM.out.call hb5).alloc Try.zeroCells29 29
          cases hmw : mwR m g with
          | none =>
            rw [hmw] at hR5
            obtain rfl := hR5
            have HD := Lib.hid (HSN.out hmw)
            have HIZ : Hid ((Try.prog.info? 29).map (·.size) = some Try.zeroCells29.toList.length) := by show _ = _; rw [zero_len]; kernel_rfl
            have HOZ : Hid (∀ v ∈ Try.zeroCells29.toList, v.oneCell' = true) := zero_ones
            have ht := (hM5.at 0 rfl).there 0 Try.zeroCells29.toList.length (by simp)
            have HB5 := Lib.hid (HQ.out.1.trans ((hM5.setAll 0 rfl (vs := Try.zeroCells29.toList) rfl).below.mono HQ.out.1.size))
            clear hM5 HM hb5 hmw HMW c0
            go_wp2_with ((with_reducible refine st_row ?_ 29 (.tmp 11) (.tmp 39) ?_ w5.heap.size 0 Try.zeroCells29.toList ?_ ?_ ht HIZ.out HOZ.out ?_); exact rfl; exact rfl; exact rfl; exact rfl)
            go_ret2
            rw [HD.out]
            exact ⟨_, rfl, HB5.out, OwnI.nil _ _⟩
          | some M =>
            rw [hmw] at hR5
            obtain rfl := hR5
            have hwM := HWM.out M hmw
            have HWF := Lib.hid hwM
            have HD := Lib.hid (HSS.out M hmw)
            have HMWR := Lib.hid hmw
            have HIM := Lib.hid (mach_infoT hwM)
            have HOM := Lib.hid (mach_ones M)
            have ht := (hM5.at 0 rfl).there 0 M.cells.length (by simp only; rw [zero_len, Mch.cells_length hwM]; omega)
            have hM6 := hM5.setAll 0 rfl (vs := M.cells) (by rw [zero_len, Mch.cells_length hwM])
            obtain ⟨am, cm, rfl⟩ := hM6.sl 1 (v := vm) rfl
            have HCN := Lib.hid (fun (W : World) (h : MsAt W am (s.map (·.2))) => slIndexM_any am cm (s.map (·.2)) (by simp; omega) HMS.out M HWF.out W h)
            have HLM : Hid ((s.map (·.2)).length = s.length) := List.length_map _
            rw [HLM.out] at HCN
            have HMA2 : Hid (∀ W L, Mg w0.heap.size w0 W L (ballG s vw rw (.slice am s.length cm) vs (cntB st s.length) ++ []) → MsAt W am (s.map (·.2))) := fun W L h => h.ms (i := 1) HMS.out HLM.out.symm rfl
            have HM6 : Hid (Mg w0.heap.size w0 ((w5.alloc (.cells Try.zeroCells29 29)).setCells w5.heap.size 0 M.cells).drew [(w5.heap.size, M.cells, 29), (b, bcell G ga gs.length gc vw (.slice am s.length cm) (lastN st) vs, 97)] (ballG s vw rw (.slice am s.length cm) vs (cntB st s.length) ++ [])) := hM6.drewN 1
            clear hM5 HM hb5 hmw HMW c0 hM6 hwM HSS
            go_wp2_with ((with_reducible refine st_row ?_ 29 (.tmp 11) (.tmp 39) ?_ w5.heap.size 0 M.cells ?_ ?_ ht HIM.out HOM.out ?_); exact rfl; exact rfl; exact rfl; exact rfl)
            generalize w5.heap.size = b5 at *
            have HS2 : Hid (∀ W, Mg w0.heap.size w0 W [(b5, M.cells, 29), (b, bcell G ga gs.length gc vw (.slice am s.length cm) (lastN st) vs, 97)] (ballG s vw rw (.slice am s.length cm) vs (cntB st s.length) ++ []) → MAt W b5 0 M ∧ W.cell? ⟨b, 3, none⟩ = some (.slice am s.length cm)) := fun W h => ⟨h.mach 0 rfl, (h.at 1 rfl).cell' (i := 3) rfl⟩
            have HPL : Hid (0 ≤ posM (s.map (·.2)) M → (posM (s.map (·.2)) M).toNat < s.length) := fun h => by
              have h2 : (posM (s.map (·.2)) M).toNat < (s.map (·.2)).length := idxN_lt h
              rwa [List.length_map] at h2
            have HSH : Hid (0 ≤ posM (s.map (·.2)) M → shortI m g (n : Int) = ((s.map (·.1))[(posM (s.map (·.2)) M).toNat]?.getD [], 0)) := fun h => HD.out.trans (shortS_hit _ h)
            have HSL : Hid (¬ 0 ≤ posM (s.map (·.2)) M → i = n → shortI m g (n : Int) = ([], 4)) := fun h e => by
              have h1 := HD.out
              rw [show n - i = 0 by omega] at h1
              exact h1.trans (shortS_last h)
            have HSE : Hid (¬ 0 ≤ posM (s.map (·.2)) M → i < n → ∀ c, stepB m gs (.ok (s, st)) = .error c → shortI m g (n : Int) = ([], c)) := fun h e c h2 => by
              have h1 := HD.out
              rw [show n - i = (n - (i + 1)) + 1 by omega] at h1
              exact h1.trans (shortS_err h h2)
            have HSX : Hid (¬ 0 ≤ posM (s.map (·.2)) M → i < n → ∀ y, stepB m gs (.ok (s, st)) = .ok y → shortI m g (n : Int) = shortS m gs M (n - (i + 1)) y) := fun h e c h2 => by
              have h1 := HD.out
              rw [show n - i = (n - (i + 1)) + 1 by omega] at h1
              exact h1.trans (shortS_next h h2)
            generalize posM (s.map (·.2)) M = pp at *
            clear ht HD
            refine region_A (fun W => MAt W b5 0 M ∧ W.cell? ⟨b, 3, none⟩ = some (.slice am s.length cm)) [] 7 (fun W => Mg w0.heap.size w0 W [(b5, M.cells, 29), (b, bcell G ga gs.length gc vw (.slice am s.length cm) (lastN st) vs, 97)] (ballG s vw rw (.slice am s.length cm) vs (cntB st s.length) ++ [])) rfl HMX.out HM6.out (fun W h => HS2.out W h) (fun W hMW hU => ?_)
            clear HM6
            (refine AnyS.take (i := 0) rfl (by kernel_rfl) (by kernel_rfl) (by kernel_rfl) (by rfl) (fun _ _ _ h => h) (by rfl) (by intro w; go_simp; with_reducible rfl) hU (fun hU => ?_); (try simp only [Act.put, List.setIfInBounds_toArray, List.set_cons_zero, List.set_cons_succ]); refine AnyS.take (i := 1) rfl (by kernel_rfl) (by kernel_rfl) (by kernel_rfl) (by rfl) (fun _ _ _ h => h) (by rfl) (by intro w; go_simp; with_reducible rfl) hU (fun hU => ?_); (try simp only [Act.put, List.setIfInBounds_toArray, List.set_cons_zero, List.set_cons_succ]); refine AnyS.take (i := 2) rfl (by kernel_rfl) (by kernel_rfl) (by kernel_rfl) (by rfl) (fun _ _ _ h => h) (by rfl) (by intro w; go_simp; with_reducible rfl) hU (fun hU => ?_); (try simp only [Act.put, List.setIfInBounds_toArray, List.set_cons_zero, List.set_cons_succ]))
            (refine AnyS.takeS (i := 3) rfl (by kernel_rfl) (by kernel_rfl) (by kernel_rfl) (by rfl) (by kernel_rfl) (by kernel_rfl) (fun _ _ _ h => h) (by rfl) (by intro W hSw; have h1 := hSw.2; clear hSw; go_simp; with_reducible rfl) hU (fun hU => ?_); (try simp only [Act.put, List.setIfInBounds_toArray, List.set_cons_zero, List.set_cons_succ]))
            (refine AnyS.takeS (i := 4) rfl (by kernel_rfl) (by kernel_rfl) (by kernel_rfl) (by rfl) (by kernel_rfl) (by kernel_rfl) (fun _ _ _ h => h) (by rfl) (fun W hW => run_ld Try.underlying29 rfl HIM.out (.tmp 11) rfl rfl hW.1) hU (fun hU => ?_); (try simp only [Act.put, List.setIfInBounds_toArray, List.set_cons_zero, List.set_cons_succ]))
            (refine AnyS.branch (rs := [5]) (by kernel_rfl) (List.cons_ne_nil _ _) ?_; refine AllS.cons rfl ?_ AllS.nil; intro K hK)
            go_simp
            refine (HCN.out W (HMA2.out W _ hMW)).mono ?_
            rintro e w7 ⟨rfl, hb7⟩
            have hM7 := hMW.call hb7
            refine hK.out _ _ (.inl (HS2.out _ hM7)) (fun hU => ?_)
            clear hK K hMW hb7
            (try simp only [Act.put, List.setIfInBounds_toArray, List.set_cons_zero, List.set_cons_succ])
            (refine AnyS.take (i := 6) rfl (by kernel_rfl) (by kernel_rfl) (by kernel_rfl) (by rfl) (fun _ _ _ h => h) (by rfl) (by intro w; go_simp; with_reducible rfl) hU (fun hU => ?_); (try simp only [Act.put, List.setIfInBounds_toArray, List.set_cons_zero, List.set_cons_succ]))
            refine AnyS.done (by kernel_rfl) ?_ _
            clear hU
            by_cases hpp : 0 ≤ pp
            · obtain ⟨j, rfl⟩ : ∃ j : Nat, pp = (j : Int) := ⟨pp.toNat, by omega⟩
              have hj := HPL.out hpp
              have HD := Lib.hid (HSH.out hpp)
              rw [Int.toNat_natCast] at hj HD
              have c2 := (hM7.at 1 rfl).cell' (i := 2) rfl
              obtain ⟨gw, cw, aj, cj, rfl, c3, hO⟩ := hM7.wordV HQ.out.2.2.2 hj
              have HO := Lib.hid (hO.less HQ.out.1.size)
              have HB7 := Lib.hid (HQ.out.1.trans (hM7.below.mono HQ.out.1.size))
              generalize (s.map (·.1))[j]?.getD [] = x at *
              have i2 : (j : Int) < (s.length : Int) := by omega
              clear hM7 hO HSH HSL HSE HSX
              go_wp2_with fail
              go_ret2
              rw [HD.out]
              exact ⟨_, rfl, HB7.out, HO.out⟩
            · have HB7 := Lib.hid (HQ.out.1.trans (hM7.below.mono HQ.out.1.size))
              have HBA : Hid (BallAt w w7 m gs b s (lastN st) (cntB st s.length)) := ⟨w0, G, ga, gc, vw, _, vs, rw, HQ.out.1, HQ.out.2.1, HQ.out.2.2.1, HQ.out.2.2.2, hM7.sub (List.sublist_cons_self _ _)⟩
              by_cases hin : i = n
              · have HD := Lib.hid (HSL.out hpp hin)
                have j1 : ((i : Int) == (n : Int)) = true := by simp; omega
                clear hM7 HSH HSL HSE HSX hin
                go_wp2_with fail
                go_ret2
                rw [HD.out]
                exact ⟨_, rfl, HB7.out, OwnI.nil _ _⟩
              · have hlt : i < n := by omega
                have j1 : ((i : Int) == (n : Int)) = false := by simp; omega
                have HSE2 := Lib.hid (HSE.out hpp hlt)
                have HSX2 := Lib.hid (HSX.out hpp hlt)
                have HG := Lib.hid (HGA.out w7 b s st i (by omega) HK.out.1 k4 HK.out.2.1 HK.out.2.2 HBA.out)
                clear hM7 HSH HSL HSE HSX hin HBA
                go_wp2_with fail
                refine HG.out.mono ?_
                intro e w8 hR8
                cases hgr : growS m (askG gs ((s.map (·.1)).drop (lastN st))) (.ok s) with
                | error c =>
                  rw [hgr] at hR8
                  obtain ⟨rfl, hb8⟩ := hR8
                  have HD := Lib.hid (HSE2.out c (stepB_bad hgr))
                  have j3 : (c != 0) = true := by rw [growS_code _ _ hgr]; rfl
                  clear HG hgr
                  go_wp2_with fail
                  go_ret2
                  rw [HD.out]
                  exact ⟨_, rfl, hb8, OwnI.nil _ _⟩
                | ok s8 =>
                  rw [hgr] at hR8
                  obtain ⟨rfl, hB8⟩ := hR8
                  have HE2 : Hid (ballR m gs (i + 1) = .ok (s8, st ++ [s.length])) := by show _ = _; rw [HSU.out, HS.out, stepB_good hgr]
                  have HB8 : Hid (BallAt w w8 m gs b s8 (lastN (st ++ [s.length])) (cntB (st ++ [s.length]) s8.length)) := by show BallAt _ _ _ _ _ _ _ _; rw [lastN_snoc]; exact hB8
                  have HS8 : Hid (∀ M, mwR m g = some M → shortI m g (n : Int) = shortS m gs M (n - (i + 1)) (s8, st ++ [s.length])) := fun M' h => by
                    rw [HMWR.out] at h; injection h with h; subst h
                    exact HSX2.out _ (stepB_good hgr)
                  clear HG hgr hB8
                  go_wp2_with fail
                  go_roundw
                  case rel => exact ⟨i + 1, s8, _, by omega, by go_num, HE2.out, HB8.out, HS8.out⟩
                  case measure => simp [intOf] <;> omega

set_option maxRecDepth 100000 in
set_option maxHeartbeats 400000 in
theorem implShortestWord_any (m : Mch) (hwf : m.Wf) (a : Option Addr) (g : Wd) (c : Nat) (hl : g.length ≤ 1100000) (r : Int) (w : World) (hI : IntsAt w a g) :
    Calls Try.prog 50 #[.agg m.cells.toArray, .slice a g.length c, .int .i64 r] w (RetI (shortI m g r).1 (shortI m g r).2 w) := by
  have hM0 := (Mg.start w).alloc m.cells.toArray 29
  have hm := hM0.mach 0 rfl
  have HSO := Lib.hid (shortest_any m hwf a g c hl r _ (hI.keep hM0.below))
  have HB0 := Lib.hid hM0.below
  clear hM0 hI
  go_enter Try.func50, Try.ntmps50
  go_wp2_with ((with_reducible refine ld_mach ?_ (.tmp 3) ?_ (w.heap.size) (0) ?_ m hm hwf ?_); exact rfl; exact rfl; exact rfl)
  refine HSO.out.mono ?_
  rintro e w1 ⟨v, rfl, hb1, hO⟩
  have HB1 := Lib.hid (HB0.out.trans (hb1.mono HB0.out.size))
  have HO := Lib.hid (hO.less HB0.out.size)
  clear HSO hb1 hO hm
  go_wp2_with fail
  go_ret2
  exact ⟨_, rfl, HB1.out, HO.out⟩

/-- a number and a code -/
def lenI (m : Mch) (g : Wd) (r : Int) : Int × Int := ((shortI m g r).1.length, (shortI m g r).2)
set_option maxRecDepth 100000 in
set_option maxHeartbeats 400000 in
theorem implLengthOfWord_any (m : Mch) (hwf : m.Wf) (a : Option Addr) (g : Wd) (c : Nat) (hl : g.length ≤ 1100000) (r : Int) (w : World) (hI : IntsAt w a g) :
    Calls Try.prog 48 #[.agg m.cells.toArray, .slice a g.length c, .int .i64 r] w (Ret (.tuple #[.int .i64 (lenI m g r).1, .int .i64 (lenI m g r).2]) w) := by
  have hM0 := (Mg.start w).alloc m.cells.toArray 29
  have hm := hM0.mach 0 rfl
  have HSO := Lib.hid (shortest_any m hwf a g c hl r _ (hI.keep hM0.below))
  have HB0 := Lib.hid hM0.below
  clear hM0 hI
  go_enter Try.func48, Try.ntmps48
  go_wp2_with ((with_reducible refine ld_mach ?_ (.tmp 3) ?_ (w.heap.size) (0) ?_ m hm hwf ?_); exact rfl; exact rfl; exact rfl)
  refine HSO.out.mono ?_
  rintro e w1 ⟨v, rfl, hb1, hO⟩
  have HB1 := Lib.hid (HB0.out.trans (hb1.mono HB0.out.size))
  obtain ⟨a1, c1, rfl, -⟩ := hO.form
  have HD : Hid (lenI m g r = (((shortI m g r).1.length : Int), (shortI m g r).2)) := rfl
  generalize lenI m g r = L at *
  generalize shortI m g r = S at *
  clear HSO hb1 hO hm
  go_wp2_with fail
  go_ret2
  rw [HD.out]
  exact ⟨rfl, HB1.out⟩
end Go.Proofs.Yteagecoiijhflaa

/- ShortestWord and LengthOfWord of the reference. -/
namespace Go.Proofs.Yteagecoiijhflaa
open Go.RowKit
set_option linter.unusedVariables false
set_option linter.unusedSimpArgs false

theorem gwP_one {m : Mch} {g : Wd} : gwsB m [g] = gwP m g := by simp [gwsB, gwP]
theorem startS_new {m : Mch} {r : Int} (h : machP m = true) (h2 : inR r 0 5 = true) : startS m r = newR m := by
  by_cases h3 : (genI m).2 ≠ 0
  · rw [startS_code h h2 h3, newR_code h h3]
  · rw [startS_ok h h2 h3, newR_ok h h3]
theorem Mg.wordU {B : Nat} {w0 w : World} {L : List (Nat × List Value × TypeId)} {s : Bs} {vw vm vs : Value} {rw : List Value} {cs : List Nat} (h : Mg B w0 w L (ballS s vw rw vm vs cs)) (hl : rw.length = s.length) {i : Nat} (hi : i < s.length) :
    ∃ gw cw a c, vw = .slice (some ⟨gw, 0, none⟩) s.length cw ∧ w.cell? ⟨gw, i, none⟩ = some (.slice a ((s.map (·.1))[i]?.getD []).length c) ∧ OwnI w B (.slice a ((s.map (·.1))[i]?.getD []).length c) ((s.map (·.1))[i]?.getD []) := by
  rw [← List.append_nil (ballS s vw rw vm vs cs)] at h
  obtain ⟨gw, cw, rfl, -⟩ := h.room 0 (v := vw) rfl (by omega)
  have hO := h.wordAtS hl hi
  obtain ⟨r, hr⟩ : ∃ r, rw[i]? = some r := ⟨_, List.getElem?_eq_getElem (by rw [hl]; exact hi)⟩
  rw [hr, Option.getD_some] at hO
  obtain ⟨a, c, rfl, -⟩ := hO.form
  have hc : w.cell? ⟨gw, i, none⟩ = some _ := h.cellAt (i := 0) rfl hr
  rw [← List.getElem?_map] at hc hO
  exact ⟨gw, cw, a, c, rfl, hc, hO⟩
set_option maxRecDepth 100000 in
set_option maxHeartbeats 400000 in
theorem specShortestWord_any (m : Mch) (hwf : m.Wf) (a : Option Addr) (g : Wd) (c : Nat) (hl : g.length ≤ 1100000) (r : Int) (w : World) (hI : IntsAt w a g) :
    Calls Try.prog 49 #[.agg m.cells.toArray, .slice a g.length c, .int .i64 r] w (RetI (shortI m g r).1 (shortI m g r).2 w) := by
  have HI3 : Hid (∀ a b c : Value, (Try.prog.info? 90).map (·.size) = some [a, b, c].length) := by
    have h : (Try.prog.info? 90).map (·.size) = some 3 := by kernel_rfl
    exact fun _ _ _ => h
  have hM0 := (Mg.start w).alloc m.cells.toArray 29
  have hm := hM0.mach 0 rfl
  have hS := slII_one (c := c) hI hM0.below 26
  have hsz : (w.alloc (.cells m.cells.toArray 29)).heap.size = w.heap.size + 1 := by simp
  rw [hsz] at hS
  have HG := Lib.hid (l02Code_any m hwf _ [g] (by simp) (fun i => by
    cases i with
    | zero => simpa using hl
    | succ i => simp) _ hS)
  have HM0 : Hid (Mg w.heap.size w ((w.alloc (.cells m.cells.toArray 29)).alloc (.cells #[.slice a g.length c] 26)) [(w.heap.size, m.cells, 29)] []) := (hM0.alloc #[.slice a g.length c] 26).sub (List.sublist_cons_self _ _)
  have HI := Lib.hid hI
  clear hI hS hM0 hsz
  go_enter Try.func49, Try.ntmps49
  go_wp2_with ((with_reducible refine ld_mach ?_ (.tmp 3) ?_ (w.heap.size) (0) ?_ m hm hwf ?_); exact rfl; exact rfl; exact rfl)
  refine HG.out.mono ?_
  rintro e w1 ⟨rfl, hb1⟩
  have hM1 := HM0.out.call hb1
  clear HG hm HM0 hb1
  rw [show codeG m [g] = if gwP m g = true then 0 else 1 by rw [← gwP_one]; rfl]
  cases hp : gwP m g with
  | false =>
    have HD := Lib.hid (shortI_bad (r := r) hp)
    have hb := hM1.below
    rw [if_neg (by decide)]
    clear hM1 hp
    go_wp2_with fail
    go_ret2
    rw [HD.out]
    exact ⟨_, rfl, hb, OwnI.nil _ _⟩
  | true =>
    rw [if_pos rfl]
    obtain ⟨hok, hgw, h40⟩ := gwP_gw hp
    have hmp : machP m = true := by simp only [gwP, Bool.and_eq_true] at hp; exact hp.1
    have HST := Lib.hid (l10Start_any m hwf r w1)
    have hm1 := hM1.mach 0 rfl
    have HM1 := Lib.hid hM1
    have HP := Lib.hid hp
    have HOK := Lib.hid hok
    have HGW := Lib.hid hgw
    have HMP := Lib.hid hmp
    clear hM1 hp hgw hok hmp
    go_wp2_with ((with_reducible refine ld_mach ?_ (.tmp 3) ?_ (w.heap.size) (0) ?_ m hm1 hwf ?_); exact rfl; exact rfl; exact rfl)
    refine HST.out.mono ?_
    rintro e w2 ⟨hb2, hR2⟩
    have HC2 := Lib.hid (HM1.out.call hb2)
    have hlt1 : w.heap.size < w1.heap.size := (HM1.out.at 0 rfl).lt
    clear HM1 hm1 hb2
    cases hst : startS m r with
    | error cc =>
      rw [hst] at hR2
      obtain ⟨hcc, gg, x, y, z, rfl, hx1, hx2, hx3⟩ := hR2
      have HD : Hid (shortI m g r = ([], cc)) := by
        show _ = _
        by_cases hr : inR r 0 5 = false
        · rw [startS_range HMP.out hr] at hst; cases hst
          exact shortI_range HP.out hr
        · simp only [Bool.not_eq_false] at hr
          rw [startS_new HMP.out hr] at hst
          exact shortI_new HP.out hr hst
      have HON : Hid (∀ v ∈ [x, y, z], v.oneCell' = true) := by show ∀ v ∈ _, _; simp [hx1, hx2, hx3]
      have hM2 := HC2.out.alloc #[.slice none 0 0, .slice none 0 0, .slice none 0 0] 90
      have ht := (hM2.at 0 rfl).there 0 3 (by simp)
      have HB := Lib.hid (hM2.setAll 0 rfl (vs := [x, y, z]) rfl).below
      have j1 : (cc != 0) = true := by simpa using hcc
      clear hM2 hst hx1 hx2 hx3 hcc HC2
      go_wp2_with ((with_reducible refine st_row ?_ 90 (.tmp 9) (.tmp 27) ?_ w2.heap.size 0 [x, y, z] ?_ ?_ ?_ (HI3.out _ _ _) HON.out ?_); exact rfl; exact rfl; exact rfl; exact rfl; exact ht)
      go_ret2
      rw [HD.out]
      exact ⟨_, rfl, HB.out, OwnI.nil _ _⟩
    | ok p =>
      obtain ⟨s0, st0⟩ := p
      rw [hst] at hR2
      obtain ⟨B, ga, gc, x, y, z, rw0, rfl, hB, hIg, hl0, hMB⟩ := hR2
      obtain ⟨-, hr, hbi, hb0⟩ := startS_good hst
      obtain ⟨n, rfl⟩ : ∃ n : Nat, r = (n : Int) := ⟨r.toNat, by simp only [inR, Bool.and_eq_true, decide_eq_true_eq] at hr; omega⟩
      have hn : n ≤ 5 := by simp only [inR, Bool.and_eq_true, decide_eq_true_eq] at hr; omega
      rw [startS_new HMP.out hr] at hst
      have HSN : Hid (mwR m g = none → shortI m g (n : Int) = ([], 3)) := fun h => shortI_none HP.out hr hst h
      have HSS : Hid (∀ M, mwR m g = some M → shortI m g (n : Int) = shortS m (genI m).1 M (n - 0) (s0, st0)) := fun M h => shortI_some HP.out hr hst h
      have HB0 := Lib.hid hb0
      have HL0 := Lib.hid hl0
      obtain ⟨a1, c1, rfl⟩ := hMB.sl 0 (v := x) rfl
      obtain ⟨a2, c2, rfl⟩ := hMB.sl 1 (v := y) rfl
      obtain ⟨a3, c3, rfl⟩ := hMB.sl 2 (v := z) rfl
      have hMB1 := hMB.alloc #[.slice none 0 0, .slice none 0 0, .slice none 0 0] 90
      have ht1 := (hMB1.at 0 rfl).there 0 3 (by simp)
      have HMB : Hid (Mg B w2 ((w2.alloc (.cells #[.slice none 0 0, .slice none 0 0, .slice none 0 0] 90)).setCells w2.heap.size 0 [.slice a1 s0.length c1, .slice a2 s0.length c2, .slice a3 st0.length c3]) [(w2.heap.size, [.slice a1 s0.length c1, .slice a2 s0.length c2, .slice a3 st0.length c3], 90)] (ballS s0 (.slice a1 s0.length c1) rw0 (.slice a2 s0.length c2) (.slice a3 st0.length c3) st0)) := hMB1.setAll 0 rfl (vs := [.slice a1 s0.length c1, .slice a2 s0.length c2, .slice a3 st0.length c3]) rfl
      have HCB : Hid (∀ W, Below B w2 W → Mg w.heap.size w W [(w.heap.size, m.cells, 29)] []) := fun W hW => HC2.out.callB (fun x hx => by
        rw [List.mem_singleton.1 hx]; show w.heap.size < B; omega) (by omega) hW
      have HGS : Hid (∀ L0 W k vw vm vs rw s st, k ≤ 5 → ballR m (genI m).1 k = .ok (s, st) → rw.length = s.length → Mg B w2 W L0 (ballS s vw rw vm vs st) → Calls Try.prog 80 #[.agg m.cells.toArray, .agg #[vw, vm, vs], .slice ga (genI m).1.length gc] W (RetS4 B w2 L0 (ballR m (genI m).1 (k + 1)))) := fun L0 W k vw vm vs rw s st hk hb hl h => grow_step m hwf HOK.out B w2 _ ga gc k (by omega) (fun W hW => hIg.1.ints hIg.2 hW) vw vm vs rw s st hb hl W h
      have HBO : Hid (∀ k s st, ballR m (genI m).1 k = .ok (s, st) → s.length ≤ 200 ∧ ∀ M ∈ s.map (·.2), M.Wf) := fun k s st h => ⟨(ballR_ok (genI_gw m) k h).1.many, (ballR_ok (genI_gw m) k h).1.wf HOK.out hwf⟩
      have HAT : Hid (∀ W vw am cm ms, ms.length ≤ 1000 → (∀ M ∈ ms, M.Wf) → Below w.heap.size w W → MsAt W am ms → Calls Try.prog 79 #[.agg m.cells.toArray, .agg #[vw, .slice am ms.length cm], .slice a g.length c] W (RetAt (mwR m g) ms W)) := fun W vw am cm ms h1 h2 h3 h4 => l04At_any m hwf HOK.out vw am cm ms h1 h2 a g c HGW.out (by omega) W (HI.out.keep h3) h4
      have HWM := Lib.hid (fun M h => mwT_wf (M := M) HOK.out hwf HGW.out h)
      have HSU : Hid (∀ k, ballR m (genI m).1 (k + 1) = stepB m (genI m).1 (ballR m (genI m).1 k)) := fun k => ballR_succ m _ k
      clear hMB hMB1 hst hIg hl0 hbi hb0 hr HC2
      have HON0 : Hid (∀ v ∈ [Value.slice a1 s0.length c1, .slice a2 s0.length c2, .slice a3 st0.length c3], v.oneCell' = true) := by show ∀ v ∈ _, _; simp [Value.oneCell']
      go_wp2_with ((with_reducible refine st_row ?_ 90 (.tmp 9) (.tmp 27) ?_ w2.heap.size 0 [.slice a1 s0.length c1, .slice a2 s0.length c2, .slice a3 st0.length c3] ?_ ?_ ?_ (HI3.out _ _ _) HON0.out ?_); exact rfl; exact rfl; exact rfl; exact rfl; exact ht1; clear ht1; generalize (w2.alloc (.cells #[.slice none 0 0, .slice none 0 0, .slice none 0 0] 90)).setCells w2.heap.size 0 [.slice a1 s0.length c1, .slice a2 s0.length c2, .slice a3 st0.length c3] = W2 at *)
      generalize w2.heap.size = b9 at *
      generalize hgs : (genI m).1 = gs at *
      go_loopw [11] (fun iv wr => ∃ (i : Nat) (s : Bs) (st : List Nat) (a1 a2 a3 : Option Addr) (c1 c2 c3 : Nat) (rw : List Value), i ≤ n ∧ iv = .int .i64 (i : Int) ∧ Hid (ballR m gs i = .ok (s, st)) ∧ Hid (rw.length = s.length) ∧ Hid (∀ M, mwR m g = some M → shortI m g (n : Int) = shortS m gs M (n - i) (s, st)) ∧ Mg B w2 wr [(b9, [.slice a1 s.length c1, .slice a2 s.length c2, .slice a3 st.length c3], 90)] (ballS s (.slice a1 s.length c1) rw (.slice a2 s.length c2) (.slice a3 st.length c3) st)) (fun i _ => n - (intOf i).toNat)
      case atStart => exact ⟨0, s0, st0, a1, a2, a3, c1, c2, c3, rw0, Nat.zero_le _, rfl, HB0.out, HL0.out, HSS.out, HMB.out⟩
      case round =>
        clear HMB HB0 HL0 HSS HON0
        obtain ⟨i, s, st, a1, a2, a3, c1, c2, c3, rw, hi, rfl, HS, HL, HSS, hM⟩ := hrel
        have ei : IntKind.i64.wrap ((i : Int) + 1) = (i : Int) + 1 := IntWalk.i64_in _ (by omega)
        obtain ⟨hs2, hms⟩ := HBO.out i s st HS.out
        have HLM : (s.map (·.2)).length = s.length := List.length_map _
        have HA := Lib.hid (HAT.out wr (.slice a1 s.length c1) a2 c2 (s.map (·.2)) (by omega) hms (HCB.out wr hM.below).below (hM.ms (i := 1) hms HLM.symm rfl))
        rw [HLM] at HA
        have k0 := (hM.at 0 rfl).cell' (i := 0) rfl
        have k1 := (hM.at 0 rfl).cell' (i := 1) rfl
        have hm3 := (HCB.out wr hM.below).mach 0 rfl
        have HM := Lib.hid hM
        clear hM hms HLM
        go_wp2_with ((with_reducible refine ld_mach ?_ (.tmp 3) ?_ (w.heap.size) (0) ?_ m hm3 hwf ?_); exact rfl; exact rfl; exact rfl)
        refine HA.out.mono ?_
        rintro e w5 ⟨hb5, hR5⟩
        have hM5 := (HM.out.call hb5).alloc Try.zeroCells29 29
        cases hmw : mwR m g with
        | none =>
          rw [hmw] at hR5
          obtain rfl := hR5
          have HD := Lib.hid (HSN.out hmw)
          have HIZ : Hid ((Try.prog.info? 29).map (·.size) = some Try.zeroCells29.toList.length) := by show _ = _; rw [zero_len]; kernel_rfl
          have HOZ : Hid (∀ v ∈ Try.zeroCells29.toList, v.oneCell' = true) := zero_ones
          have ht := (hM5.at 0 rfl).there 0 Try.zeroCells29.toList.length (by simp)
          have HB5 := Lib.hid (HCB.out _ (hM5.setAll 0 rfl (vs := Try.zeroCells29.toList) rfl).below).below
          clear hM5 HM hb5 hmw HA k0 k1 hm3
          go_wp2_with ((with_reducible refine st_row ?_ 29 (.tmp 13) (.tmp 41) ?_ w5.heap.size 0 Try.zeroCells29.toList ?_ ?_ ht HIZ.out HOZ.out ?_); exact rfl; exact rfl; exact rfl; exact rfl)
          go_ret2
          rw [HD.out]
          exact ⟨_, rfl, HB5.out, OwnI.nil _ _⟩
        | some M =>
          rw [hmw] at hR5
          obtain rfl := hR5
          have hwM := HWM.out M hmw
          have HD := Lib.hid (HSS.out M hmw)
          have HMWR := Lib.hid hmw
          have HIM := Lib.hid (mach_infoT hwM)
          have HOM := Lib.hid (mach_ones M)
          have ht := (hM5.at 0 rfl).there 0 M.cells.length (by simp only; rw [zero_len, Mch.cells_length hwM]; omega)
          have HM6 : Hid (Mg B w2 ((w5.alloc (.cells Try.zeroCells29 29)).setCells w5.heap.size 0 M.cells) [(b9, [.slice a1 s.length c1, .slice a2 s.length c2, .slice a3 st.length c3], 90)] (ballS s (.slice a1 s.length c1) rw (.slice a2 s.length c2) (.slice a3 st.length c3) st)) := (hM5.setAll 0 rfl (vs := M.cells) (by rw [zero_len, Mch.cells_length hwM])).sub (List.sublist_cons_self _ _)
          clear hM5 HM hb5 hmw HA k0 k1 hm3 hwM HSS
          have HPL : Hid (0 ≤ posM (s.map (·.2)) M → (posM (s.map (·.2)) M).toNat < s.length) := fun h => by
              have h2 : (posM (s.map (·.2)) M).toNat < (s.map (·.2)).length := idxN_lt h
              rwa [List.length_map] at h2
          have HSH : Hid (0 ≤ posM (s.map (·.2)) M → shortI m g (n : Int) = ((s.map (·.1))[(posM (s.map (·.2)) M).toNat]?.getD [], 0)) := fun h => HD.out.trans (shortS_hit _ h)
          have HSL : Hid (¬ 0 ≤ posM (s.map (·.2)) M → i = n → shortI m g (n : Int) = ([], 4)) := fun h e => by
            have h1 := HD.out
            rw [show n - i = 0 by omega] at h1
            exact h1.trans (shortS_last h)
          have HSE : Hid (¬ 0 ≤ posM (s.map (·.2)) M → i < n → ∀ c, stepB m gs (.ok (s, st)) = .error c → shortI m g (n : Int) = ([], c)) := fun h e c h2 => by
            have h1 := HD.out
            rw [show n - i = (n - (i + 1)) + 1 by omega] at h1
            exact h1.trans (shortS_err h h2)
          have HSX : Hid (¬ 0 ≤ posM (s.map (·.2)) M → i < n → ∀ y, stepB m gs (.ok (s, st)) = .ok y → shortI m g (n : Int) = shortS m gs M (n - (i + 1)) y) := fun h e c h2 => by
            have h1 := HD.out
            rw [show n - i = (n - (i + 1)) + 1 by omega] at h1
            exact h1.trans (shortS_next h h2)
          generalize posM (s.map (·.2)) M = pp at *
          by_cases hpp : 0 ≤ pp
          · obtain ⟨j, rfl⟩ : ∃ j : Nat, pp = (j : Int) := ⟨pp.toNat, by omega⟩
            have hj := HPL.out hpp
            have HD := Lib.hid (HSH.out hpp)
            rw [Int.toNat_natCast] at hj HD
            have c2 := (HM6.out.at 0 rfl).cell' (i := 0) rfl
            obtain ⟨gw, cw, aj, cj, e1, c3, hO⟩ := HM6.out.wordU HL.out hj
            injection e1 with e1 _ e2
            subst e1 e2
            have HO := Lib.hid (hO.less (C := w.heap.size) (by omega))
            have HB7 := Lib.hid (HCB.out _ HM6.out.below).below
            generalize (s.map (·.1))[j]?.getD [] = x at *
            have i2 : (j : Int) < (s.length : Int) := by omega
            clear HM6 hO HSH HSL HSE HSX
            go_wp2_with ((with_reducible refine st_row ?_ 29 (.tmp 13) (.tmp 41) ?_ w5.heap.size 0 M.cells ?_ ?_ ht HIM.out HOM.out ?_); exact rfl; exact rfl; exact rfl; exact rfl; clear ht; generalize (w5.alloc (.cells Try.zeroCells29 29)).setCells w5.heap.size 0 M.cells = W6 at *)
            go_ret2
            rw [HD.out]
            exact ⟨_, rfl, HB7.out, HO.out⟩
          · by_cases hin : i = n
            · have HD := Lib.hid (HSL.out (by omega) hin)
              have HB7 := Lib.hid (HCB.out _ HM6.out.below).below
              have j1 : ((i : Int) == (n : Int)) = true := by simp; omega
              clear HM6 HSH HSL HSE HSX hin
              go_wp2_with ((with_reducible refine st_row ?_ 29 (.tmp 13) (.tmp 41) ?_ w5.heap.size 0 M.cells ?_ ?_ ht HIM.out HOM.out ?_); exact rfl; exact rfl; exact rfl; exact rfl; clear ht; generalize (w5.alloc (.cells Try.zeroCells29 29)).setCells w5.heap.size 0 M.cells = W6 at *)
              go_ret2
              rw [HD.out]
              exact ⟨_, rfl, HB7.out, OwnI.nil _ _⟩
            · have hlt : i < n := by omega
              have j1 : ((i : Int) == (n : Int)) = false := by simp; omega
              have HSE2 := Lib.hid (HSE.out (by omega) hlt)
              have HSX2 := Lib.hid (HSX.out (by omega) hlt)
              have HG := Lib.hid (HGS.out _ _ i _ _ _ rw s st (by omega) HS.out HL.out HM6.out)
              have k0 := (HM6.out.at 0 rfl).cell' (i := 0) rfl
              have k1 := (HM6.out.at 0 rfl).cell' (i := 1) rfl
              have k2 := (HM6.out.at 0 rfl).cell' (i := 2) rfl
              have hm6 := (HCB.out _ HM6.out.below).mach 0 rfl
              clear HM6 HSH HSL HSE HSX hin
              go_wp2_with (first | ((with_reducible refine st_row ?_ 29 (.tmp 13) (.tmp 41) ?_ w5.heap.size 0 M.cells ?_ ?_ ht HIM.out HOM.out ?_); exact rfl; exact rfl; exact rfl; exact rfl; clear ht; generalize (w5.alloc (.cells Try.zeroCells29 29)).setCells w5.heap.size 0 M.cells = W6 at *) | ((with_reducible refine ld_mach ?_ (.tmp 3) ?_ (w.heap.size) (0) ?_ m hm6 hwf ?_); exact rfl; exact rfl; exact rfl))
              refine HG.out.mono ?_
              intro e w8 hR8
              cases hb : ballR m gs (i + 1) with
              | error cc =>
                rw [hb] at hR8
                obtain ⟨hcc, hM8, x', y', z', rfl, q1, q2, q3⟩ := hR8
                have HSTE : Hid (stepB m gs (.ok (s, st)) = .error cc) := by
                  show _ = _
                  rw [HSU.out, HS.out] at hb; exact hb
                have HD := Lib.hid (HSE2.out cc HSTE.out)
                have HON : Hid (∀ v ∈ [x', y', z'], v.oneCell' = true) := by show ∀ v ∈ _, _; simp [q1, q2, q3]
                have hM9 := hM8.alloc #[.slice none 0 0, .slice none 0 0, .slice none 0 0] 90
                have ht9 := (hM9.at 0 rfl).there 0 3 (by simp)
                have HB9 := Lib.hid (HCB.out _ (hM9.setAll 0 rfl (vs := [x', y', z']) rfl).below).below
                have j3 : (cc != 0) = true := by simpa using hcc
                clear HG hb hM8 hM9 q1 q2 q3 hcc k0 k1 k2 hm6
                go_wp2_with ((with_reducible refine st_row ?_ 90 (.tmp 15) (.tmp 62) ?_ w8.heap.size 0 [x', y', z'] ?_ ?_ ?_ (HI3.out _ _ _) HON.out ?_); exact rfl; exact rfl; exact rfl; exact rfl; exact ht9)
                go_ret2
                rw [HD.out]
                exact ⟨_, rfl, HB9.out, OwnI.nil _ _⟩
              | ok p =>
                obtain ⟨s8, st8⟩ := p
                rw [hb] at hR8
                obtain ⟨vw, vm, vs, rw8, rfl, hl8, hM8⟩ := hR8
                obtain ⟨d1, e1, rfl⟩ := hM8.sl 0 (v := vw) rfl
                obtain ⟨d2, e2, rfl⟩ := hM8.sl 1 (v := vm) rfl
                obtain ⟨d3, e3, rfl⟩ := hM8.sl 2 (v := vs) rfl
                have HL8 := Lib.hid hl8
                have HE8 := Lib.hid hb
                have HS8 : Hid (∀ M, mwR m g = some M → shortI m g (n : Int) = shortS m gs M (n - (i + 1)) (s8, st8)) := fun M' h => by
                  rw [HMWR.out] at h; injection h with h; subst h
                  exact HSX2.out _ (by have := hb; rw [HSU.out, HS.out] at this; exact this)
                have HON : Hid (∀ v ∈ [Value.slice d1 s8.length e1, .slice d2 s8.length e2, .slice d3 st8.length e3], v.oneCell' = true) := by show ∀ v ∈ _, _; simp [Value.oneCell']
                have hM9 := hM8.alloc #[.slice none 0 0, .slice none 0 0, .slice none 0 0] 90
                have ht9 := (hM9.at 0 rfl).there 0 3 (by simp)
                have HM9 : Hid (Mg B w2 ((w8.alloc (.cells #[.slice none 0 0, .slice none 0 0, .slice none 0 0] 90)).setCells w8.heap.size 0 [.slice d1 s8.length e1, .slice d2 s8.length e2, .slice d3 st8.length e3]) [(w8.heap.size, [.slice d1 s8.length e1, .slice d2 s8.length e2, .slice d3 st8.length e3], 90), (b9, [.slice a1 s.length c1, .slice a2 s.length c2, .slice a3 st.length c3], 90)] (ballS s8 (.slice d1 s8.length e1) rw8 (.slice d2 s8.length e2) (.slice d3 st8.length e3) st8)) := hM9.setAll 0 rfl (vs := [.slice d1 s8.length e1, .slice d2 s8.length e2, .slice d3 st8.length e3]) rfl
                have q0 := (HM9.out.at 0 rfl).cell' (i := 0) rfl
                have q1 := (HM9.out.at 0 rfl).cell' (i := 1) rfl
                have q2 := (HM9.out.at 0 rfl).cell' (i := 2) rfl
                have ht7 := (HM9.out.at 1 rfl).there 0 3 (by simp)
                clear HG hb hM8 hM9 hl8 k0 k1 k2 hm6
                generalize hb15 : w8.heap.size = b15 at *
                go_wp2_with (first
                  | ((with_reducible refine st_row ?_ 90 (.tmp 15) (.tmp 62) ?_ b15 0 [.slice d1 s8.length e1, .slice d2 s8.length e2, .slice d3 st8.length e3] ?_ ?_ ?_ (HI3.out _ _ _) HON.out ?_); exact rfl; exact rfl; exact rfl; exact rfl; exact ht9; clear ht9; generalize (w8.alloc (.cells #[.slice none 0 0, .slice none 0 0, .slice none 0 0] 90)).setCells b15 0 [.slice d1 s8.length e1, .slice d2 s8.length e2, .slice d3 st8.length e3] = W9 at *)
                  | ((with_reducible refine st_row ?_ 90 (.tmp 9) (.tmp 67) ?_ b9 0 [.slice d1 s8.length e1, .slice d2 s8.length e2, .slice d3 st8.length e3] ?_ ?_ ?_ (HI3.out _ _ _) HON.out ?_); exact rfl; exact rfl; exact rfl; exact rfl; exact ht7))
                have hM10 := (HM9.out.setAll 1 rfl (vs := [.slice d1 s8.length e1, .slice d2 s8.length e2, .slice d3 st8.length e3]) rfl).sub (List.sublist_cons_self _ _)
                go_roundw
                case rel => exact ⟨i + 1, s8, st8, d1, d2, d3, e1, e2, e3, rw8, by omega, by go_num, HE8.out, HL8.out, HS8.out, hM10⟩
                case measure => simp [intOf] <;> omega

set_option maxRecDepth 100000 in
set_option maxHeartbeats 400000 in
theorem specLengthOfWord_any (m : Mch) (hwf : m.Wf) (a : Option Addr) (g : Wd) (c : Nat) (hl : g.length ≤ 1100000) (r : Int) (w : World) (hI : IntsAt w a g) :
    Calls Try.prog 47 #[.agg m.cells.toArray, .slice a g.length c, .int .i64 r] w (Ret (.tuple #[.int .i64 (lenI m g r).1, .int .i64 (lenI m g r).2]) w) := by
  have hM0 := (Mg.start w).alloc m.cells.toArray 29
  have hm := hM0.mach 0 rfl
  have HSO := Lib.hid (specShortestWord_any m hwf a g c hl r _ (hI.keep hM0.below))
  have HB0 := Lib.hid hM0.below
  clear hM0 hI
  go_enter Try.func47, Try.ntmps47
  go_wp2_with ((with_reducible refine ld_mach ?_ (.tmp 3) ?_ (w.heap.size) (0) ?_ m hm hwf ?_); exact rfl; exact rfl; exact rfl)
  refine HSO.out.mono ?_
  rintro e w1 ⟨v, rfl, hb1, hO⟩
  have HB1 := Lib.hid (HB0.out.trans (hb1.mono HB0.out.size))
  obtain ⟨a1, c1, rfl, -⟩ := hO.form
  have HD : Hid (lenI m g r = (((shortI m g r).1.length : Int), (shortI m g r).2)) := rfl
  generalize lenI m g r = L at *
  generalize shortI m g r = S at *
  clear HSO hb1 hO hm
  go_wp2_with fail
  go_ret2
  rw [HD.out]
  exact ⟨rfl, HB1.out⟩
end Go.Proofs.Yteagecoiijhflaa
