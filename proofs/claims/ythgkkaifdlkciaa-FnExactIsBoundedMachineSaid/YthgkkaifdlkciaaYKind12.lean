import Derived.Test.YthgkkaifdlkciaaYKind11
/- The reference's count of cycles one behind the other. -/
namespace Go.Proofs.Ythgkkaifdlkciaa
open Go.RowKit
set_option linter.unusedVariables false
set_option linter.unusedSimpArgs false

theorem ownT_le (t : Tbl) (tv : Nat → Bool) (r u : Nat) : t.ownT tv r u ≤ t.n + 2 := by
  unfold Tbl.ownT
  have := lmx_le (l := ((List.range u).filter (t.tlB tv r)).map (t.mosD tv)) (b := t.n + 1) fun a ha => by
    obtain ⟨x, -, rfl⟩ := List.mem_map.1 ha
    exact Tbl.mosF_le t tv _ x
  omega
theorem bstR_le (t : Tbl) (tv : Nat → Bool) (q r : Nat) : t.bstR tv q r ≤ t.n + 2 := by
  unfold Tbl.bstR
  refine lmx_le fun a ha => ?_
  obtain ⟨x, -, rfl⟩ := List.mem_map.1 ha
  exact ownT_le t tv x t.n

set_option maxRecDepth 100000 in
set_option maxHeartbeats 500000 in
theorem l09Most_below (M : Mch) (hwf : M.Wf) (hok : M.Ok) (htv : M.tbl.Tv (trivB M)) (f : Nat → Nat → Bool) (hf : ∀ p r, p < M.s → r < M.s → f p r = M.tbl.nb (trivB M) p r) : ∀ (k q : Nat) (w : World), q < M.s → M.tbl.mu q < k →
    Calls Try.prog 45 #[.int .i64 (M.s : Int), .agg (b2L f).toArray, .int .i64 (q : Int)] w (Ret (.int .i64 (M.tbl.mosD (trivB M) q : Int)) w) := by
  intro k
  induction k with
  | zero => intro q w hq hk; omega
  | succ k ih =>
    intro q w hq hk
    have hs16 := hok.s_le
    have hs1 := hok.s_pos
    have HF := Lib.hid hf
    have HIH : Hid (∀ u W, u < M.s → M.tbl.mu u < M.tbl.mu q → Calls Try.prog 45 #[.int .i64 (M.s : Int), .agg (b2L f).toArray, .int .i64 (u : Int)] W (Ret (.int .i64 (M.tbl.mosD (trivB M) u : Int)) W)) := fun u W hu hm => ih u W hu (by omega)
    have HTL : Hid (∀ r u, M.tbl.admB (trivB M) q r = true → M.tbl.tlB (trivB M) r u = true → M.tbl.mu u < M.tbl.mu q) := fun r u h1 h2 => (Tbl.tl_mu htv hq h1 h2).1
    have HEND : Hid (M.tbl.mosD (trivB M) q = M.tbl.bstR (trivB M) q M.s) := Tbl.mosD_eq htv hq
    have HBY := Lib.hid (fun r h => Tbl.bstR_yes (t := M.tbl) (tv := trivB M) (q := q) (r := r) h)
    have HBN := Lib.hid (fun r h => Tbl.bstR_no (t := M.tbl) (tv := trivB M) (q := q) (r := r) h)
    have HOY := Lib.hid (fun r u h => Tbl.ownT_yes (t := M.tbl) (tv := trivB M) (r := r) (u := u) h)
    have HON := Lib.hid (fun r u h => Tbl.ownT_no (t := M.tbl) (tv := trivB M) (r := r) (u := u) h)
    have HBL : Hid (∀ r, M.tbl.bstR (trivB M) q r ≤ 18) := fun r => Nat.le_trans (bstR_le _ _ _ _) (by show M.s + 2 ≤ 18; omega)
    have HOL : Hid (∀ r u, M.tbl.ownT (trivB M) r u ≤ 18) := fun r u => Nat.le_trans (ownT_le _ _ _ _) (by show M.s + 2 ≤ 18; omega)
    have HML : Hid (∀ u, M.tbl.mosD (trivB M) u ≤ 17) := fun u => Nat.le_trans (Tbl.mosF_le _ _ _ _) (by show M.s + 1 ≤ 17; omega)
    have HI : Hid ((Try.prog.info? 64).map (·.size) = some (b2L f).length) := by show _ = _; rw [b2L_len]; kernel_rfl
    have HB0 := Lib.hid (Blk.new w (b2L f).toArray 64)
    have HW0 : Hid (Below w.heap.size w (w.alloc (.cells (b2L f).toArray 64))) := (Below.refl _ _).alloc (Nat.le_refl _) _
    have q1 : (0 : Int) ≤ (q : Int) := by omega
    have q2 : (q : Int) < 16 := by omega
    clear hf hk ih htv
    go_enter Try.func45, Try.ntmps45
    go_wp2_with fail
    go_loopw [7, 8] (fun bv rv wr => ∃ r : Nat, r ≤ M.s ∧ rv = .int .i64 (r : Int) ∧ bv = .int .i64 (M.tbl.bstR (trivB M) q r : Int) ∧ Blk wr w.heap.size (b2L f) 64 ∧ Below w.heap.size w wr) (fun _ rv _ => M.s - (intOf rv).toNat)
    case atStart => exact ⟨0, Nat.zero_le _, rfl, rfl, HB0.out, HW0.out⟩
    case round =>
      clear HB0 HW0
      obtain ⟨r, hr, rfl, rfl, hB, hb⟩ := hrel
      have er : IntKind.i64.wrap ((r : Int) + 1) = (r : Int) + 1 := IntWalk.i64_in _ (by omega)
      have hbl := HBL.out r
      by_cases hlt : r < M.s
      · have crr := hB.cell' (b2L_get f (p := r) (r := r) (by omega) (by omega))
        have cqr := hB.cell' (b2L_get f (p := q) (r := r) (by omega) (by omega))
        have crq := hB.cell' (b2L_get f (p := r) (r := q) (by omega) (by omega))
        rw [HF.out _ _ hlt hlt] at crr
        rw [HF.out _ _ hq hlt] at cqr
        rw [HF.out _ _ hlt hq] at crq
        have r1 : (0 : Int) ≤ (r : Int) := by omega
        have r2 : (r : Int) < 16 := by omega
        have r3 : (r : Int) < (M.s : Int) := by omega
        have HA : Hid (M.tbl.admB (trivB M) q r = (M.tbl.nb (trivB M) r r && (decide (r = q) || M.tbl.nb (trivB M) q r) && !(M.tbl.nb (trivB M) r q && decide (r ≠ q)))) := rfl
        have HN : Hid (M.tbl.admB (trivB M) q r = false → M.tbl.bstR (trivB M) q (r + 1) = M.tbl.bstR (trivB M) q r) := HBN.out r
        have HY : Hid (M.tbl.admB (trivB M) q r = true → M.tbl.bstR (trivB M) q (r + 1) = max (M.tbl.bstR (trivB M) q r) (M.tbl.ownT (trivB M) r M.s)) := HBY.out r
        have HB := Lib.hid hB
        have HW := Lib.hid hb
        clear hB hb
        by_cases hA : M.tbl.admB (trivB M) q r = true
        · have HAD := Lib.hid hA
          rw [HA.out] at hA
          have hb1 : M.tbl.nb (trivB M) r r = true := by
            simp only [Bool.and_eq_true] at hA; exact hA.1.1
          have hb2 : r ≠ q → M.tbl.nb (trivB M) q r = true := fun e => by
            simp only [Bool.and_eq_true, Bool.or_eq_true, decide_eq_true_eq] at hA; exact hA.1.2.resolve_left e
          have hb3 : r ≠ q → M.tbl.nb (trivB M) r q = false := fun e => by
            cases h : M.tbl.nb (trivB M) r q with
            | false => rfl
            | true => rw [h] at hA; simp [e] at hA
          rw [hb1] at crr
          generalize hbs : M.tbl.bstR (trivB M) q r = bs at *
          have HZ : Hid (∀ u W, u < M.s → M.tbl.tlB (trivB M) r u = true → Calls Try.prog 45 #[.int .i64 (M.s : Int), .agg (b2L f).toArray, .int .i64 (u : Int)] W (Ret (.int .i64 (M.tbl.mosD (trivB M) u : Int)) W)) := fun u W hu h => HIH.out u W hu (HTL.out r u HAD.out h)
          clear hA HA
          by_cases e : r = q
          case' pos =>
            have j1 : ((r : Int) != (q : Int)) = false := by rw [e]; simp
            have e3 : M.tbl.nb (trivB M) r q = true := by rw [← e]; exact hb1
            have e2 : M.tbl.nb (trivB M) q r = true := by rw [← e]; exact hb1
            rw [e3] at crq
            rw [e2] at cqr
            clear e hbs HN hb1 hb2 hb3 e3 e2
            go_wp2_with fail
          case' neg =>
            have j1 : ((r : Int) != (q : Int)) = true := by rw [bne_iff_ne]; omega
            rw [hb3 e] at crq
            rw [hb2 e] at cqr
            clear e hbs HN hb1 hb2 hb3
            go_wp2_with fail
          all_goals
            clear crr cqr crq
            go_loopw [9, 10] (fun ov uv wr => ∃ u : Nat, u ≤ M.s ∧ uv = .int .i64 (u : Int) ∧ ov = .int .i64 (M.tbl.ownT (trivB M) r u : Int) ∧ Blk wr w.heap.size (b2L f) 64 ∧ Below w.heap.size w wr) (fun _ uv _ => M.s - (intOf uv).toNat)
            case atStart => exact ⟨0, Nat.zero_le _, rfl, rfl, HB.out, HW.out⟩
            case round =>
              clear HB HW j1
              obtain ⟨u, hu, rfl, rfl, hB, hb⟩ := hrel
              have eu : IntKind.i64.wrap ((u : Int) + 1) = (u : Int) + 1 := IntWalk.i64_in _ (by omega)
              have hol := HOL.out r u
              by_cases hul : u < M.s
              · have cru := hB.cell' (b2L_get f (p := r) (r := u) (by omega) (by omega))
                have cur := hB.cell' (b2L_get f (p := u) (r := r) (by omega) (by omega))
                rw [HF.out _ _ hlt hul] at cru
                rw [HF.out _ _ hul hlt] at cur
                have u1 : (0 : Int) ≤ (u : Int) := by omega
                have u2 : (u : Int) < 16 := by omega
                have u3 : (u : Int) < (M.s : Int) := by omega
                have HT : Hid (M.tbl.tlB (trivB M) r u = (decide (u ≠ r) && M.tbl.nb (trivB M) r u && !M.tbl.nb (trivB M) u r)) := rfl
                have HN : Hid (M.tbl.tlB (trivB M) r u = false → M.tbl.ownT (trivB M) r (u + 1) = M.tbl.ownT (trivB M) r u) := HON.out r u
                have HY2 : Hid (M.tbl.tlB (trivB M) r u = true → M.tbl.ownT (trivB M) r (u + 1) = max (M.tbl.ownT (trivB M) r u) (1 + M.tbl.mosD (trivB M) u)) := HOY.out r u
                have HC := Lib.hid (HZ.out u wr hul)
                have hml := HML.out u
                have hall := hB.all
                have HB := Lib.hid hB
                have HW := Lib.hid hb
                clear hB hb
                generalize M.tbl.nb (trivB M) r u = b4 at *
                generalize M.tbl.nb (trivB M) u r = b5 at *
                generalize M.tbl.mosD (trivB M) u = md at *
                obtain ⟨ow, how⟩ : ∃ ow, ow = M.tbl.ownT (trivB M) r u := ⟨_, rfl⟩
                rw [← how] at HN HY2 hol ⊢
                clear how
                have em : IntKind.i64.wrap (1 + (md : Int)) = 1 + (md : Int) := IntWalk.i64_in _ (by omega)
                by_cases e : u = r
                · have j1 : ((u : Int) != (r : Int)) = false := by rw [e]; simp
                  have HR := Lib.hid (HN.out (by rw [HT.out]; simp [e]))
                  clear e HT HN HY2 HC hall
                  go_wp2_with fail
                  go_roundw
                  case rel => exact ⟨u + 1, by omega, by go_num, by rw [HR.out], HB.out, HW.out⟩
                  case measure => simp [intOf] <;> omega
                · have j1 : ((u : Int) != (r : Int)) = true := by rw [bne_iff_ne]; omega
                  have HE := Lib.hid e
                  clear e
                  cases b4 with
                  | false =>
                    have HR := Lib.hid (HN.out (by rw [HT.out]; simp))
                    clear HT HN HY2 HC hall
                    go_wp2_with fail
                    go_roundw
                    case rel => exact ⟨u + 1, by omega, by go_num, by rw [HR.out], HB.out, HW.out⟩
                    case measure => simp [intOf] <;> omega
                  | true =>
                    cases b5 with
                    | true =>
                      have HR := Lib.hid (HN.out (by rw [HT.out]; simp))
                      clear HT HN HY2 HC hall
                      go_wp2_with fail
                      go_roundw
                      case rel => exact ⟨u + 1, by omega, by go_num, by rw [HR.out], HB.out, HW.out⟩
                      case measure => simp [intOf] <;> omega
                    | false =>
                      have htl : M.tbl.tlB (trivB M) r u = true := by rw [HT.out]; simp [HE.out]
                      have HR := Lib.hid (HY2.out htl)
                      have HC2 := Lib.hid (HC.out htl)
                      clear HT HN HY2 HC htl
                      go_wp2_with ((with_reducible refine ld_row ?_ 64 (.tmp 4) ?_ w.heap.size 0 ?_ (b2L f) (.array 16 61) hall Try.underlying64 ?_ HI.out ?_); exact rfl; exact rfl; exact rfl; exact rfl)
                      refine HC2.out.mono ?_
                      rintro e w5 ⟨rfl, hb5⟩
                      have HB5 := Lib.hid (HB.out.keep hb5)
                      have HW5 := Lib.hid (HW.out.trans (hb5.mono HW.out.size))
                      clear hall hb5 HC2
                      go_wp2_with fail
                      go_roundw
                      case rel => exact ⟨u + 1, by omega, by go_num, by rw [HR.out]; go_num, HB5.out, HW5.out⟩
                      case measure => simp [intOf] <;> omega
              · obtain rfl : u = M.s := by omega
                have u3 : ¬ ((M.s : Int) < (M.s : Int)) := by omega
                have HR := Lib.hid (HY.out HAD.out)
                have HB := Lib.hid hB
                have HW := Lib.hid hb
                clear hB hb HY
                generalize M.tbl.ownT (trivB M) r M.s = ow at *
                go_wp2_with fail
                go_roundw
                case rel => exact ⟨r + 1, by omega, by go_num, by rw [HR.out]; go_num, HB.out, HW.out⟩
                case measure => simp [intOf] <;> omega
        · have hA' : M.tbl.admB (trivB M) q r = false := by simpa using hA
          have HR := Lib.hid (HN.out hA')
          rw [HA.out] at hA'
          clear hA HA HN HY
          by_cases e : r = q
          · have j1 : ((r : Int) != (q : Int)) = false := by rw [e]; simp
            have hb1 : M.tbl.nb (trivB M) r r = false := by
              cases h : M.tbl.nb (trivB M) r r with
              | false => rfl
              | true => rw [h] at hA'; simp [e] at hA'
            rw [hb1] at crr
            clear hA' e hb1 cqr crq
            go_wp2_with fail
            go_roundw
            case rel => exact ⟨r + 1, by omega, by go_num, by rw [HR.out], HB.out, HW.out⟩
            case measure => simp [intOf] <;> omega
          · have j1 : ((r : Int) != (q : Int)) = true := by rw [bne_iff_ne]; omega
            have HE := Lib.hid e
            generalize M.tbl.nb (trivB M) r r = b1 at *
            generalize M.tbl.nb (trivB M) q r = b2 at *
            generalize M.tbl.nb (trivB M) r q = b3 at *
            have hx : b1 = false ∨ (b1 = true ∧ b2 = false) ∨ (b1 = true ∧ b2 = true ∧ b3 = true) := by cases b1 <;> cases b2 <;> cases b3 <;> simp [e] at hA' ⊢
            clear hA' e
            rcases hx with rfl | ⟨rfl, rfl⟩ | ⟨rfl, rfl, rfl⟩
            all_goals
              go_wp2_with fail
              go_roundw
              case rel => exact ⟨r + 1, by omega, by go_num, by rw [HR.out], HB.out, HW.out⟩
              case measure => simp [intOf] <;> omega
      · obtain rfl : r = M.s := by omega
        have r3 : ¬ ((M.s : Int) < (M.s : Int)) := by omega
        have HW := Lib.hid hb
        clear hB hb
        go_wp2_with fail
        go_ret
        rw [HEND.out]
        exact ⟨rfl, HW.out⟩
theorem l09Most_any (M : Mch) (hwf : M.Wf) (hok : M.Ok) (htv : M.tbl.Tv (trivB M)) (f : Nat → Nat → Bool) (hf : ∀ p r, p < M.s → r < M.s → f p r = M.tbl.nb (trivB M) p r) (q : Nat) (hq : q < M.s) (w : World) :
    Calls Try.prog 45 #[.int .i64 (M.s : Int), .agg (b2L f).toArray, .int .i64 (q : Int)] w (Ret (.int .i64 (M.tbl.mosD (trivB M) q : Int)) w) := l09Most_below M hwf hok htv f hf _ q w hq (Nat.lt_succ_self _)
end Go.Proofs.Ythgkkaifdlkciaa

/- The reference's reach, step by step: no program in sight. -/
namespace Go.Proofs.Ythgkkaifdlkciaa
set_option linter.unusedVariables false
set_option linter.unusedSimpArgs false

/-- one cell set -/
def upd2 (f : Nat → Nat → Bool) (p r : Nat) (b : Bool) (p' r' : Nat) : Bool := if p' = p ∧ r' = r then b else f p' r'
theorem b2L_set (f : Nat → Nat → Bool) {p r : Nat} (b : Bool) (hp : p < 16) (hr : r < 16) : (b2L f).set (p * 16 + r) (.bool b) = b2L (upd2 f p r b) := by
  apply List.ext_getElem?
  intro i
  by_cases hi : i < 256
  · have e1 : i = i / 16 * 16 + i % 16 := by omega
    by_cases e : i = p * 16 + r
    · subst e
      rw [List.getElem?_set_self (by rw [b2L_len]; omega), b2L_get _ hp hr]; simp [upd2]
    · rw [List.getElem?_set_ne (by omega), e1, b2L_get _ (by omega) (by omega), b2L_get _ (by omega) (by omega)]
      have : ¬ (i / 16 = p ∧ i % 16 = r) := fun h => e (by omega)
      simp [upd2, this]
  · rw [List.getElem?_eq_none (by rw [List.length_set, b2L_len]; omega), List.getElem?_eq_none (by rw [b2L_len]; omega)]
/-- the edges of the states before q, and of the first x letters at q -/
def Tbl.eU (t : Tbl) (tv : Nat → Bool) (q x p r : Nat) : Bool := (decide (p < q) && t.eB tv p r) || (decide (p = q) && !tv p && !tv r && (List.range x).any fun y => t.nx p y == r)
section
variable {t : Tbl} {tv : Nat → Bool}
theorem Tbl.eU_start (p r : Nat) : t.eU tv 0 0 p r = false := by simp [Tbl.eU]
theorem Tbl.eU_set {q x : Nat} (h1 : tv q = false) (h2 : tv (t.nx q x) = false) (p r : Nat) : t.eU tv q (x + 1) p r = upd2 (t.eU tv q x) q (t.nx q x) true p r := by
  unfold upd2
  by_cases e : p = q
  · subst e
    by_cases e2 : r = t.nx p x
    · rw [if_pos ⟨rfl, e2⟩]; subst e2
      simp [Tbl.eU, List.range_succ, h1, h2]
    · rw [if_neg (fun h => e2 h.2)]
      have : (t.nx p x == r) = false := by rw [beq_eq_false_iff_ne]; exact fun h => e2 h.symm
      simp [Tbl.eU, List.range_succ, this]
  · rw [if_neg (fun h => e h.1)]
    simp [Tbl.eU, e]
theorem Tbl.eU_skip {q x : Nat} (h2 : tv (t.nx q x) = true) (p r : Nat) : t.eU tv q (x + 1) p r = t.eU tv q x p r := by
  by_cases e : p = q
  · subst e
    by_cases e2 : r = t.nx p x
    · subst e2; simp [Tbl.eU, h2]
    · have : (t.nx p x == r) = false := by rw [beq_eq_false_iff_ne]; exact fun h => e2 h.symm
      simp [Tbl.eU, List.range_succ, this]
  · simp [Tbl.eU, e]
theorem Tbl.eU_next {q : Nat} (hq : q < t.n) (p r : Nat) : t.eU tv q t.d p r = t.eU tv (q + 1) 0 p r := by
  by_cases e : p = q
  · subst e; simp [Tbl.eU, Tbl.eB, hq]
  · have : (p < q + 1) = (p < q) := by rw [eq_iff_iff]; omega
    simp [Tbl.eU, e, this]
theorem Tbl.eU_triv {q x : Nat} (h : tv q = true) (p r : Nat) : t.eU tv q x p r = t.eU tv (q + 1) 0 p r := by
  by_cases e : p = q
  · subst e; simp [Tbl.eU, Tbl.eB, h]
  · have : (p < q + 1) = (p < q) := by rw [eq_iff_iff]; omega
    simp [Tbl.eU, e, this]
theorem Tbl.eU_end (p r : Nat) : t.eU tv t.n 0 p r = t.eB tv p r := by
  by_cases h : p < t.n
  · simp [Tbl.eU, h]
  · simp [Tbl.eU, Tbl.eB, h]
end
end Go.Proofs.Ythgkkaifdlkciaa

/- The minimal machine while the reference fills it: no program in sight. -/
namespace Go.Proofs.Ythgkkaifdlkciaa
set_option linter.unusedVariables false
set_option linter.unusedSimpArgs false

/-- 16 rows of 3 numbers: those of d letters that D tells of are given -/
def gaD (d : Nat) (D : Nat → Nat → Bool) (f : Nat → Nat → Nat) : List Int := (List.range 48).map fun j => if j % 3 < d ∧ D (j / 3) (j % 3) = true then (f (j / 3) (j % 3) : Int) else 0
theorem gaD_len (d : Nat) (D : Nat → Nat → Bool) (f : Nat → Nat → Nat) : (gaD d D f).length = 48 := by simp [gaD]
def plusD (D : Nat → Nat → Bool) (q x : Nat) (i y : Nat) : Bool := D i y || (decide (i = q) && decide (y = x))
theorem gaD_congr {d : Nat} {D E : Nat → Nat → Bool} {f g : Nat → Nat → Nat} (h : ∀ i y, i < 16 → y < d → D i y = E i y) (hf : ∀ i y, i < 16 → y < d → D i y = true → f i y = g i y) : gaD d D f = gaD d E g := by
  unfold gaD
  refine map48_congr fun j hj => ?_
  by_cases c : j % 3 < d
  · have h1 := h (j / 3) (j % 3) (by omega) c
    by_cases e : D (j / 3) (j % 3) = true
    · rw [if_pos ⟨c, e⟩, if_pos ⟨c, h1 ▸ e⟩, hf _ _ (by omega) c e]
    · rw [if_neg (fun k => e k.2), if_neg (fun k => e (h1 ▸ k.2))]
  · rw [if_neg (fun k => c k.1), if_neg (fun k => c k.1)]
theorem gaD_set {d : Nat} {D : Nat → Nat → Bool} {f : Nat → Nat → Nat} {q x : Nat} (hq : q < 16) (hx : x < d) (hd : d ≤ 3) : (gaD d D f).set (q * 3 + x) (f q x : Int) = gaD d (plusD D q x) f := by
  rw [gaD, map48_set _ (by omega), gaD]
  refine map48_congr fun i hi => ?_
  by_cases e : i = q * 3 + x
  · subst e
    rw [if_pos rfl, show (q * 3 + x) / 3 = q by omega, show (q * 3 + x) % 3 = x by omega, if_pos ⟨hx, by simp [plusD]⟩]
  · rw [if_neg e]
    have h : plusD D q x (i / 3) (i % 3) = D (i / 3) (i % 3) := by
      have : ¬ (i / 3 = q ∧ i % 3 = x) := by omega
      simp [plusD, this]
    rw [h]
theorem gaD_bound {d b : Nat} {D : Nat → Nat → Bool} {f : Nat → Nat → Nat} (hf : ∀ i y, i < 16 → y < d → D i y = true → f i y ≤ b) (i : Nat) : 0 ≤ (gaD d D f)[i]?.getD 0 ∧ (gaD d D f)[i]?.getD 0 ≤ (b : Int) := by
  by_cases h : i < 48
  · simp only [gaD, List.getElem?_map, List.getElem?_range h, Option.map_some, Option.getD_some]
    split
    · rename_i hc
      have := hf _ _ (by omega) hc.1 hc.2
      omega
    · omega
  · rw [List.getElem?_eq_none (by rw [gaD_len]; omega)]
    simp only [Option.getD_none]; omega
theorem gaD_none {d : Nat} {D : Nat → Nat → Bool} {f : Nat → Nat → Nat} (h : ∀ i y, D i y = false) : gaD d D f = List.replicate 48 0 := by
  have h : gaD d D f = (List.range 48).map fun _ => (0 : Int) := map48_congr fun i hi => by rw [if_neg]; rw [h]; simp
  rw [h]; rfl
theorem gaD_all {d n : Nat} {f : Nat → Nat → Nat} : gaD d (fun i _ => decide (i < n)) f = grid n d f := by
  unfold gaD grid
  refine map48_congr fun j hj => ?_
  by_cases c : j / 3 < n ∧ j % 3 < d
  · rw [if_pos c, if_pos ⟨c.2, by simpa using c.1⟩]
  · rw [if_neg c, if_neg]
    rintro ⟨a, b⟩
    exact c ⟨by simpa using b, a⟩
/-- a machine while it is filled -/
def daM (L S : Int) (d : Nat) (f g : Nat → Nat → Nat) (D E : Nat → Nat → Bool) : Mch := ⟨L, S, gaD d D f, gaD d E g⟩
theorem daM_setN {L S : Int} {d : Nat} {f g : Nat → Nat → Nat} {D E : Nat → Nat → Bool} {q x : Nat} (hq : q < 16) (hx : x < d) (hd : d ≤ 3) : (daM L S d f g D E).cells.set (2 + q * 3 + x) (.int .u8 (f q x : Int)) = (daM L S d f g (plusD D q x) E).cells := by
  rw [Nat.add_assoc, daM, cells_setN _ _ _ _ _ (by rw [gaD_len]; omega), gaD_set hq hx hd]; rfl
theorem daM_setO {L S : Int} {d : Nat} {f g : Nat → Nat → Nat} {D E : Nat → Nat → Bool} {q x : Nat} (hq : q < 16) (hx : x < d) (hd : d ≤ 3) : (daM L S d f g D E).cells.set (50 + q * 3 + x) (.int .u8 (g q x : Int)) = (daM L S d f g D (plusD E q x)).cells := by
  rw [Nat.add_assoc, daM, cells_setO _ _ _ _ _ (gaD_len _ _ _), gaD_set hq hx hd]; rfl

section
variable (m : Mch)
/-- which entries of the minimal machine are filled when the first x letters of state q are done -/
def mqD (q x i y : Nat) : Bool := decide (i < m.tbl.rk q) || (decide (i = m.tbl.num q) && decide (y < x))
/-- the minimal machine while it is filled -/
def mqM (q x z : Nat) : Mch := daM m.L (m.tbl.rk m.s : Int) m.l m.tbl.minT.nx m.tbl.minT.ot (mqD m q x) (mqD m q z)
variable {m}
theorem mq_plus (q x : Nat) (i y : Nat) : plusD (mqD m q x) (m.tbl.num q) x i y = mqD m q (x + 1) i y := by
  unfold plusD mqD
  rw [Bool.eq_iff_iff]
  simp only [Bool.or_eq_true, Bool.and_eq_true, decide_eq_true_eq]
  omega
theorem mq_row (q i y : Nat) (hy : y < m.l) : mqD m q m.l i y = mqD m (q + 1) 0 i y := by
  unfold mqD
  rw [Bool.eq_iff_iff]
  simp only [Bool.or_eq_true, Bool.and_eq_true, decide_eq_true_eq]
  have h := Tbl.rk_succ (t := m.tbl) q
  by_cases e : m.tbl.fin q = q
  · rw [if_pos e] at h
    have : m.tbl.num q = m.tbl.rk q := by rw [Tbl.num, e]
    omega
  · rw [if_neg e] at h
    have h1 : m.tbl.num q < m.tbl.rk q := by
      have := m.tbl.fin_le q
      exact Tbl.rk_lt (t := m.tbl) (Tbl.fin_fin (t := m.tbl) q) (by omega)
    omega
theorem mqM_row (q : Nat) : mqM m q m.l m.l = mqM m (q + 1) 0 0 := by
  unfold mqM daM
  rw [gaD_congr (E := mqD m (q + 1) 0) (g := m.tbl.minT.nx) (fun i y _ hy => mq_row q i y hy) (fun _ _ _ _ _ => rfl),
    gaD_congr (D := mqD m q m.l) (E := mqD m (q + 1) 0) (g := m.tbl.minT.ot) (fun i y _ hy => mq_row q i y hy) (fun _ _ _ _ _ => rfl)]
theorem mqM_all : mqM m m.s 0 0 = minM m := by
  have h : ∀ i y, mqD m m.s 0 i y = decide (i < m.tbl.rk m.s) := fun i y => by simp [mqD]
  unfold mqM daM minM
  rw [gaD_congr (E := fun i _ => decide (i < m.tbl.rk m.s)) (g := m.tbl.minT.nx) (fun i y _ _ => h i y) (fun _ _ _ _ _ => rfl),
    gaD_congr (D := mqD m m.s 0) (E := fun i _ => decide (i < m.tbl.rk m.s)) (g := m.tbl.minT.ot) (fun i y _ _ => h i y) (fun _ _ _ _ _ => rfl), gaD_all, gaD_all]
theorem mqM_start : (mqM m 0 0 0).cells = Mch.cells ⟨m.L, (m.tbl.rk m.s : Int), List.replicate 48 0, List.replicate 48 0⟩ := by
  have h : ∀ i y, mqD m 0 0 i y = false := fun i y => by simp [mqD, Tbl.rk]
  unfold mqM daM
  rw [gaD_none h, gaD_none h]
/-- the number of a state that is its own least one, and of another one -/
theorem num_own {q : Nat} (h : m.tbl.fin q = q) : m.tbl.num q = m.tbl.rk q := by rw [Tbl.num, h]
theorem num_fin (q : Nat) : m.tbl.num (m.tbl.fin q) = m.tbl.num q := by rw [Tbl.num, Tbl.fin_fin]; rfl
variable (hok : m.Ok) (hwf : m.Wf)
include hok hwf
theorem mqM_wf {q x z : Nat} (hq : q < m.s ∨ q ≤ m.s ∧ x = 0 ∧ z = 0) : (mqM m q x z).Wf := by
  have h16 := rk_le16 hok
  have hl := hok.l_le
  have hlt : ∀ x i y, (q < m.s ∨ x = 0) → mqD m q x i y = true → i < m.tbl.rk m.s := fun x i y hx h => by
    simp only [mqD, Bool.or_eq_true, Bool.and_eq_true, decide_eq_true_eq] at h
    have h1 := Tbl.rk_mono (t := m.tbl) (q := q) (r := m.s) (by omega)
    rcases h with h | ⟨h, h2⟩
    · omega
    · rcases hx with hx | hx
      · rw [h]; exact Tbl.num_lt (t := m.tbl) hx
      · omega
  have hqx : q < m.s ∨ x = 0 := hq.imp id fun h => h.2.1
  have hqz : q < m.s ∨ z = 0 := hq.imp id fun h => h.2.2
  refine ⟨gaD_len _ _ _, gaD_len _ _ _, fun i => ?_, fun i => ?_, hwf.lb, ?_⟩
  · have := gaD_bound (d := m.l) (b := 255) (D := mqD m q x) (f := m.tbl.minT.nx) (fun i y hi hy h => by
      have := minT_nx_lt hok hwf (hlt x i y hqx h) hy; omega) i
    simpa [mqM, daM] using this
  · have := gaD_bound (d := m.l) (b := 255) (D := mqD m q z) (f := m.tbl.minT.ot) (fun i y hi hy h => by
      have := minT_ot_lt hok hwf (hlt z i y hqz h) hy; omega) i
    simpa [mqM, daM] using this
  · simp only [mqM, daM]; omega
theorem mqM_setN {q x z : Nat} (hq : q < m.s) (hx : x < m.l) : (mqM m q x z).cells.set (2 + m.tbl.num q * 3 + x) (.int .u8 (m.tbl.num (m.nn q x) : Int)) = (mqM m q (x + 1) z).cells := by
  have h := Tbl.minT_next (t := m.tbl) (Mch.tbl_wf hok hwf) hok.s_pos hq hx
  have h1 : m.tbl.num (m.nn q x) = m.tbl.minT.nx (m.tbl.num q) x := h.1.symm
  have h2 := Tbl.num_lt (t := m.tbl) hq
  have h3 := rk_le16 hok
  rw [h1, mqM, daM_setN (by change _ < m.tbl.rk m.s at h2; omega) hx hok.l_le]
  unfold mqM daM
  rw [gaD_congr (E := mqD m q (x + 1)) (g := m.tbl.minT.nx) (fun i y _ _ => mq_plus q x i y) (fun _ _ _ _ _ => rfl)]
theorem mqM_setO {q x z : Nat} (hq : q < m.s) (hz : z < m.l) : (mqM m q x z).cells.set (50 + m.tbl.num q * 3 + z) (.int .u8 (m.on q z : Int)) = (mqM m q x (z + 1)).cells := by
  have h := Tbl.minT_next (t := m.tbl) (Mch.tbl_wf hok hwf) hok.s_pos hq hz
  have h1 : m.on q z = m.tbl.minT.ot (m.tbl.num q) z := h.2.symm
  have h2 := Tbl.num_lt (t := m.tbl) hq
  have h3 := rk_le16 hok
  rw [h1, mqM, daM_setO (by change _ < m.tbl.rk m.s at h2; omega) hz hok.l_le]
  unfold mqM daM
  rw [gaD_congr (D := plusD (mqD m q z) (m.tbl.num q) z) (E := mqD m q (z + 1)) (g := m.tbl.minT.ot) (fun i y _ _ => mq_plus q z i y) (fun _ _ _ _ _ => rfl)]
end
end Go.Proofs.Ythgkkaifdlkciaa
