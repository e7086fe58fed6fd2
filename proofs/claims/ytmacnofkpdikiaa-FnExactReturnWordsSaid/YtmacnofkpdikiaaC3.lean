/- (*table).like, (*table).least. -/
import Derived.Test.YtmacnofkpdikiaaC2
namespace Go.Proofs.Ytmacnofkpdikiaa
open Go.RowKit
set_option linter.unusedVariables false
set_option linter.unusedSimpArgs false

def okL (t : Tbl) (c : Nat → Nat) (q r : Nat) : Bool := c r == c q && (List.range t.d).all fun x => c (t.nx q x) == c (t.nx r x)
theorem okL_eqv {t : Tbl} (hw : t.Wf) {k : Nat} (hk : 1 ≤ k) {c : Nat → Nat} (hc : ∀ q, q < t.n → c q = t.cls k q) {q r : Nat} (hq : q < t.n) (hr : r < t.n) : okL t c q r = t.eqv (k + 1) q r := by
  rw [Bool.eq_iff_iff, Tbl.eqv_succ]
  simp only [okL, Bool.and_eq_true, beq_iff_eq, List.all_eq_true, List.mem_range]
  rw [hc q hq, hc r hr]
  constructor
  · rintro ⟨h1, h2⟩ x hx
    have e := h2 x hx
    rw [hc _ (hw q x hq hx), hc _ (hw r x hr hx)] at e
    refine ⟨?_, (t.cls_iff k _ _).2 e⟩
    obtain ⟨j, rfl⟩ : ∃ j, k = j + 1 := ⟨k - 1, by omega⟩
    exact ((t.eqv_succ j q r).1 ((t.cls_iff (j + 1) q r).2 h1.symm) x hx).1
  · intro h
    have h' : t.eqv (k + 1) q r = true := (t.eqv_succ k q r).2 h
    refine ⟨((t.cls_iff k q r).1 (t.eqv_mono k q r h')).symm, fun x hx => ?_⟩
    rw [hc _ (hw q x hq hx), hc _ (hw r x hr hx)]
    exact (t.cls_iff k _ _).1 (h x hx).2
theorem okL_low {t : Tbl} {k : Nat} {c : Nat → Nat} (hc : ∀ q, q < t.n → c q = t.cls k q) {q s : Nat} (hq : q < t.n) (hs : s < c q) : t.eqv (k + 1) q s = false := by
  rw [hc q hq] at hs
  have := lst_min hs
  cases e : t.eqv (k + 1) q s
  · rfl
  · rw [t.eqv_mono k q s e] at this; cases this

set_option maxRecDepth 100000 in
set_option maxHeartbeats 4000000 in
theorem like_any (t : Tbl) (hw : t.Wf) (hn : t.n ≤ 1000) (hd : t.d ≤ 100) (T : Nat) (k : Nat) (hk : 1 ≤ k) (c : Nat → Nat) (hc : ∀ q, q < t.n → c q = t.cls k q) (g : Nat) (q : Nat) (hq : q < t.n) (w : World) (hT : TabG w T t)
    (hB : ∀ q, q < t.n → w.cell? ⟨g, q, none⟩ = some (.int .i64 (c q))) :
    Calls Try.prog 119 #[.pointer (some ⟨T, 0, none⟩), .slice (some ⟨g, 0, none⟩) t.n t.n, .int .i64 q] w (RetQ (.int .i64 (t.cls (k + 1) q)) w) := by
  obtain ⟨gN, cN, gO, cO, t1, t2, t3, t4⟩ := hT
  have hcq : c q ≤ q := by rw [hc q hq]; exact t.cls_le k q
  have e1 := hB q hq
  have HB := Lib.hid hB
  have H3 := Lib.hid t3
  have HC := Lib.hid hc
  have HW := Lib.hid hw
  have i1 : (0 : Int) ≤ (q : Int) := by omega
  have i2 : (q : Int) < (t.n : Int) := by omega
  obtain ⟨a, ha⟩ : ∃ a, a = c q := ⟨_, rfl⟩
  rw [← ha] at e1 hcq
  have HA := Lib.hid ha
  clear t2 t3 t4 hB hc hw ha
  go_enter Try.func119, Try.ntmps119
  go_wp2_with fail
  clear e1
  go_loopw [7] (fun i wr => ∃ r : Nat, a ≤ r ∧ r ≤ q ∧ i = .int .i64 r ∧ Hid (∃ m, wr = w.drewN m) ∧ Hid (∀ s, s < r → t.eqv (k + 1) q s = false)) (fun i _ => q - (intOf i).toNat)
  case atStart => exact ⟨a, Nat.le_refl _, hcq, rfl, ⟨0, rfl⟩, fun s hs => okL_low HC.out hq (by rw [← HA.out]; exact hs)⟩
  case round =>
    obtain ⟨r, har, hr, rfl, HD, HN⟩ := hrel
    by_cases hlt : r < q
    · have hcell : ∀ a, wr.cell? a = w.cell? a := fun a => by obtain ⟨n, hn⟩ := HD.out; rw [hn]; rfl
      have HCELL := Lib.hid hcell
      clear hcell
      have b1 := (HCELL.out _).trans (HB.out q hq)
      have b2 := (HCELL.out _).trans (HB.out r (by omega))
      have HOK : Hid (okL t c q r = t.eqv (k + 1) q r) := okL_eqv HW.out hk HC.out hq (by omega)
      have HNX : Hid (t.eqv (k + 1) q r = false → ∀ s, s < r + 1 → t.eqv (k + 1) q s = false) := fun h s hs => by
        by_cases e : s = r
        · subst e; exact h
        · exact HN.out s (by omega)
      have HOD : Hid (okL t c q r = (c r == c q && (List.range t.d).all fun x => c (t.nx q x) == c (t.nx r x))) := rfl
      have j1 : (0 : Int) ≤ (r : Int) := by omega
      have j2 : (r : Int) < (t.n : Int) := by omega
      have j3 : (r : Int) < (q : Int) := by omega
      obtain ⟨u, hu⟩ : ∃ u, u = c q := ⟨_, rfl⟩
      obtain ⟨v, hv⟩ : ∃ v, v = c r := ⟨_, rfl⟩
      rw [← hu] at b1 HOD
      rw [← hv] at b2 HOD
      by_cases e : v = u
      · have HV := Lib.hid hv
        subst e
        clear hu hv
        obtain ⟨gq, cq, f1, f2⟩ := H3.out q hq
        obtain ⟨gr, cr, f3, f4⟩ := H3.out r (by omega)
        have HF2 := Lib.hid f2
        have HF4 := Lib.hid f4
        have d1 := (HCELL.out _).trans t1
        have d2 := (HCELL.out _).trans f1
        have d3 := (HCELL.out _).trans f3
        clear f2 f4
        go_wp2_with fail
        go_quiet (fail)
        go_wp2_with fail
        clear b1 b2
        go_loopw [8, 37] (fun s8 i wi => ∃ x : Nat, x ≤ t.d ∧ i = .int .i64 x ∧ s8 = .bool ((List.range x).all fun x => c (t.nx q x) == c (t.nx r x)) ∧ Hid (∃ m, wi = w.drewN m)) (fun _ i _ => t.d - (intOf i).toNat)
        case atStart => exact ⟨0, Nat.zero_le _, rfl, rfl, by obtain ⟨n, hn⟩ := HD.out; rw [hn]; exact dN2 _ _ _⟩
        case round =>
          clear d1 d2 d3
          obtain ⟨x, hx, rfl, rfl, HDi⟩ := hrel
          have hcell : ∀ a, wr.cell? a = w.cell? a := fun a => by obtain ⟨n, hn⟩ := HDi.out; rw [hn]; rfl
          have HCELL := Lib.hid hcell
          clear hcell
          by_cases hxlt : x < t.d
          · have d1 := (HCELL.out _).trans t1
            have d2 := (HCELL.out _).trans (HF2.out x hxlt)
            have d3 := (HCELL.out _).trans f3
            have d4 := (HCELL.out _).trans (HF4.out x hxlt)
            have n1 := HW.out q x hq hxlt
            have n2 := HW.out r x (by omega) hxlt
            have d5 := (HCELL.out _).trans (HB.out _ n1)
            have d6 := (HCELL.out _).trans (HB.out _ n2)
            have HX := Lib.hid (allUpto_succ (fun x => c (t.nx q x) == c (t.nx r x)) x)
            have k1 : (0 : Int) ≤ (x : Int) := by omega
            have k2 : (x : Int) < (t.d : Int) := by omega
            generalize t.nx q x = z1 at *
            generalize t.nx r x = z2 at *
            have k3 : (0 : Int) ≤ (z1 : Int) := by omega
            have k4 : (z1 : Int) < (t.n : Int) := by omega
            have k5 : (0 : Int) ≤ (z2 : Int) := by omega
            have k6 : (z2 : Int) < (t.n : Int) := by omega
            generalize c z1 = y1 at *
            generalize c z2 = y2 at *
            cases hs : (List.range x).all fun x => c (t.nx q x) == c (t.nx r x)
            · rw [hs] at HX
              clear hs
              go_wp2_with fail
              go_quiet (fail)
              go_wp2_with fail
              go_roundw
              case rel => exact ⟨x + 1, by omega, by go_num, by rw [HX.out]; rfl, by obtain ⟨n, hn⟩ := HDi.out; rw [hn]; exact dN2 _ _ _⟩
              case measure => simp [intOf] <;> omega
            · rw [hs] at HX
              clear hs
              have HY : Hid (((y1 : Int) == (y2 : Int)) = (y1 == y2)) := by show _ = _; rw [Bool.eq_iff_iff]; simp; omega
              go_wp2_with fail
              go_quiet (fail)
              go_wp2_with fail
              go_roundw
              case rel => exact ⟨x + 1, by omega, by go_num, by rw [HX.out, HY.out]; simp, by obtain ⟨n, hn⟩ := HDi.out; rw [hn]; exact dN2 _ _ _⟩
              case measure => simp [intOf] <;> omega
          · have hx' : x = t.d := by omega
            subst hx'
            cases hs : (List.range t.d).all fun x => c (t.nx q x) == c (t.nx r x)
            · have HE := Lib.hid (HNX.out (by rw [← HOK.out, HOD.out, hs]; simp))
              clear hs
              go_wp2_with fail
              go_roundw
              case rel => exact ⟨r + 1, by omega, by omega, by go_num, HDi, HE.out⟩
              case measure => simp [intOf] <;> omega
            · have hE : t.eqv (k + 1) q r = true := by rw [← HOK.out, HOD.out, hs]; simp
              have HE : Hid (t.cls (k + 1) q = r) := lst_eq (by omega) (fun _ => hE) HN.out
              clear hs hE
              go_wp2_with fail
              go_ret
              exact ⟨ret_int (by rw [HE.out]), HDi.out⟩
      · have HE := Lib.hid (HNX.out (by rw [← HOK.out, HOD.out]; simp [e]))
        have e' : ((v : Int) != (u : Int)) = true := by simp; omega
        clear hu hv e
        go_wp2_with fail
        go_quiet (fail)
        go_wp2_with fail
        go_roundw
        case rel => exact ⟨r + 1, by omega, by omega, by go_num, by obtain ⟨n, hn⟩ := HD.out; rw [hn]; exact dN2 _ _ _, HE.out⟩
        case measure => simp [intOf] <;> omega
    · have hr' : r = q := by omega
      subst hr'
      have HE : Hid (t.cls (k + 1) r = r) := lst_eq (Nat.le_refl _) (fun h => by omega) HN.out
      go_wp2_with fail
      go_ret
      exact ⟨ret_int (by rw [HE.out]), HD.out⟩
end Go.Proofs.Ytmacnofkpdikiaa
