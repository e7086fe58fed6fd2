/- The reference's IsMachine. -/
import Derived.Test.YtmacnofkpdikiaaD
namespace Go.Proofs.Ytmacnofkpdikiaa
open Go.RowKit
set_option linter.unusedVariables false
set_option linter.unusedSimpArgs false

/-- the letters that a state has put out before x -/
def metB (m : Mch) (q k v : Nat) : Bool := (List.range k).any fun y => decide (m.o q y = (v : Int))
theorem metB_all {m : Mch} {q k o : Nat} (ho : m.o q k = (o : Int)) : ((List.range k).all fun y => m.o q y != m.o q k) = !metB m q k o := by
  rw [metB, List.not_any_eq_all_not, ho]
  congr 1
theorem metB_succ {m : Mch} {q k o : Nat} (ho : m.o q k = (o : Int)) (v : Nat) : metB m q (k + 1) v = (metB m q k v || decide (v = o)) := by
  simp only [metB, List.range_succ, List.any_append, List.any_cons, List.any_nil, Bool.or_false, ho]
  congr 1
  simp
  omega

/-- the array of the letters met, at block B -/
structure MetAt (w : World) (B : Nat) (m : Mch) (q j : Nat) : Prop where
  val : ∀ v, v < 3 → (q : Int) < m.S → (j : Int) ≤ m.L → w.cell? ⟨B, v, none⟩ = some (.bool (metB m q j v))
  some : ∀ v, v < 3 → ∃ u, w.cell? ⟨B, v, none⟩ = some (.bool u)
  free : ∀ v, v < 3 → w.frozen? ⟨B, v, none⟩ = false

theorem MetAt.step {w : World} {B : Nat} {m : Mch} {q j o : Nat} (h : MetAt w B m q j) (ho : m.o q j = (o : Int)) (h3 : o < 3) (n : Nat) :
    MetAt ((w.drewN n).setCell ⟨B, o, none⟩ (.bool true)) B m q (j + 1) := by
  have hc : ∀ v, v < 3 → v ≠ o → ((w.drewN n).setCell ⟨B, o, none⟩ (.bool true)).cell? ⟨B, v, none⟩ = w.cell? ⟨B, v, none⟩ := fun v hv hne =>
    World.cell?_setCell_other _ _ _ _ (by simp only [ne_eq, Addr.mk.injEq, true_and, and_true]; omega)
  have hs : ((w.drewN n).setCell ⟨B, o, none⟩ (.bool true)).cell? ⟨B, o, none⟩ = Option.some (.bool true) := by
    obtain ⟨u, hu⟩ := h.some o h3
    exact World.cell?_setCell_same _ _ _ (u := .bool u) hu
  refine ⟨fun v hv a c => ?_, fun v hv => ?_, fun v hv => ?_⟩
  · rw [metB_succ ho]
    by_cases e : v = o
    · subst e; rw [hs]; simp
    · rw [hc v hv e, h.val v hv a (by omega)]; simp [e]
  · by_cases e : v = o
    · subst e; exact ⟨true, hs⟩
    · rw [hc v hv e]; exact h.some v hv
  · have := h.free v hv
    simpa using this

theorem MetAt.idle {w : World} {B : Nat} {m : Mch} {q j : Nat} (h : MetAt w B m q j) (hn : ¬ ((q : Int) < m.S ∧ (j : Int) < m.L)) (n : Nat) : MetAt (w.drewN n) B m q (j + 1) :=
  ⟨fun v hv a c => absurd ⟨a, by omega⟩ hn, h.some, h.free⟩

theorem MetAt.zero (w : World) (m : Mch) (q T : Nat) (B : Nat) (hB : B = w.heap.size) : MetAt (w.alloc (.cells #[.bool false, .bool false, .bool false] T)) B m q 0 := by
  subst hB
  refine ⟨fun v hv _ _ => ?_, fun v hv => ⟨false, ?_⟩, fun v hv => ?_⟩
  · rw [World.cell?_alloc_at _ _ _ _ rfl]
    match v, hv with | 0, _ => rfl | 1, _ => rfl | 2, _ => rfl
  · rw [World.cell?_alloc_at _ _ _ _ rfl]
    match v, hv with | 0, _ => rfl | 1, _ => rfl | 2, _ => rfl
  · rw [World.frozen?_alloc_at _ _ _ _ rfl]

set_option maxHeartbeats 4000000 in
theorem l01Is_any (m : Mch) (hwf : m.Wf) (w : World) :
    Calls Try.prog 66 #[.agg m.cells.toArray] w (Ret (.bool (machP m)) w) := by
  have hm := MAt.boxed w m 44
  have hl : (w.alloc (.cells m.cells.toArray 44)).cell? ⟨w.heap.size, 0, none⟩ = some (.int .i64 m.L) := hm.l
  have hs : (w.alloc (.cells m.cells.toArray 44)).cell? ⟨w.heap.size, 1, none⟩ = some (.int .i64 m.S) := hm.s
  have hb0 : Below w.heap.size w (w.alloc (.cells m.cells.toArray 44)) := (Below.refl _ _).alloc (Nat.le_refl _) _
  have HF : Hid (inR m.L 2 3 = false → machP m = false) := fun h => by simp [machP, h]
  have HF2 : Hid (inR m.S 1 16 = false → machP m = false) := fun h => by simp [machP, h]
  by_cases c1 : inR m.L 2 3 = true
  · by_cases c2 : inR m.S 1 16 = true
    · have hL : m.L ≤ 3 := by simp [inR] at c1; omega
      have HT : Hid (rowsUpto m 16 = true → machP m = true) := fun h => by simp [machP, c1, c2]; simpa [rowsUpto] using h
      obtain ⟨mb, hmb⟩ : ∃ mb, mb = w.heap.size := ⟨_, rfl⟩
      go_enter Try.func66, Try.ntmps66
      go_wp2_with (go_at_call 53; refine (l01In_any _ _ _ _).mono ?_; rintro e w' ⟨rfl, rfl⟩)
      go_loopw [2, 3] (fun r x wr => ∃ k : Nat, k ≤ 16 ∧ x = .int .i64 k ∧ Hid (rowsUpto m k = true) ∧ r = .bool false ∧ MAt wr w.heap.size 0 m ∧ Below w.heap.size w wr ∧ w.heap.size < wr.heap.size) (fun _ x _ => 16 - (intOf x).toNat)
      case atStart => exact ⟨0, by omega, rfl, rfl, rfl, hm, hb0, by simp⟩
      case round =>
        obtain ⟨k, hk, rfl, hu, rfl, hmr, hbr, hsz⟩ := hrel
        clear hl hs
        have hl := hmr.l
        have hs := hmr.s
        by_cases hlt : k < 16
        · have i1 : (k : Int) < 16 := by omega
          go_wp2
          obtain ⟨B, hB⟩ : ∃ B, B = wr.heap.size := ⟨_, rfl⟩
          rw [← hB]
          have HB := Lib.hid hB
          clear hl hs hB
          go_loopw [2, 5] (fun r x wi => ∃ j : Nat, j ≤ 3 ∧ x = .int .i64 j ∧ Hid (rowUpto m k j = true) ∧ r = .bool false ∧ MAt wi w.heap.size 0 m ∧ Below w.heap.size w wi ∧ w.heap.size < wi.heap.size ∧ Hid (MetAt wi B m k j)) (fun _ x _ => 3 - (intOf x).toNat)
          case atStart =>
            exact ⟨0, by omega, rfl, rfl, rfl, hmr.alloc hsz _, hbr.alloc (by omega) _, by simp; omega, MetAt.zero _ _ _ _ _ HB.out⟩
          case round =>
            obtain ⟨j, hj, rfl, hU, rfl, hmi, hbi, hszi, hMet⟩ := hrel
            have hl := hmi.l
            have hs := hmi.s
            by_cases hjlt : j < 3
            · have e2 := hmi.nn hwf hlt hjlt
              have e3 := hmi.oo hwf hlt hjlt
              have b2 : 0 ≤ m.n k j ∧ m.n k j ≤ 255 := hwf.nb (k * 3 + j)
              have b3 : 0 ≤ m.o k j ∧ m.o k j ≤ 255 := hwf.ob (k * 3 + j)
              have i2 : (0 : Int) ≤ (k : Int) := by omega
              have i3 : (j : Int) < 3 := by omega
              have i4 : (0 : Int) ≤ (j : Int) := by omega
              obtain ⟨N, hN⟩ : ∃ N, N = m.n k j := ⟨_, rfl⟩
              obtain ⟨O, hO⟩ : ∃ O, O = m.o k j := ⟨_, rfl⟩
              rw [← hN] at e2 b2
              rw [← hO] at e3 b3
              have HN := Lib.hid hN
              have HO := Lib.hid hO
              clear hN hO
              by_cases hact : (k : Int) < m.S ∧ (j : Int) < m.L
              · have HA := entry_act hact
                rw [← HN.out, ← HO.out] at HA
                obtain ⟨a1, a2⟩ := hact
                by_cases k1 : N < m.S
                · by_cases k2 : O < m.L
                  · obtain ⟨o', ho'⟩ : ∃ o' : Nat, O = o' := ⟨O.toNat, by omega⟩
                    subst ho'
                    have ho3 : o' < 3 := by omega
                    have i5 : (o' : Int) < 3 := by omega
                    have i6 : (0 : Int) ≤ (o' : Int) := by omega
                    have hc := hMet.out.val o' ho3 a1 (by omega)
                    have hf := hMet.out.free o' ho3
                    have hall := metB_all (k := j) HO.out.symm
                    rw [HO.out, hall] at HA
                    clear hall
                    have HA' := Lib.hid HA
                    clear HA
                    by_cases k3 : metB m k j o' = true
                    · rw [k3] at hc
                      have HF := Lib.hid (show machP m = false from mach_false hlt (row_false hjlt (by rw [HA'.out, k3]; simp)))
                      clear k3
                      go_wp2
                      go_quiet (fail)
                      go_wp2
                      go_ret
                      exact ⟨ret_bool HF.out.symm, below_dN hbi _⟩
                    · have k3' : metB m k j o' = false := by simpa using k3
                      rw [k3'] at hc
                      have HF := Lib.hid (show rowUpto m k (j + 1) = true by rw [rowUpto_succ, hU.out, HA'.out, k3']; simp [k1, ← HO.out, k2])
                      have HM := Lib.hid (fun v => metB_succ (k := j) (m := m) (q := k) HO.out.symm v)
                      clear k3 k3'
                      go_wp2
                      go_quiet (fail)
                      go_wp2
                      go_roundw
                      case rel => exact ⟨j + 1, by omega, by go_num, HF.out, rfl, (hmi.drewN _).setCell (by have := HB.out; simp; omega) _, (below_dN hbi _).setCell (by have := HB.out; simp; omega) _, by simp; omega, hMet.out.step HO.out.symm ho3 _⟩
                      case measure => simp [intOf]; omega
                  · have HF := Lib.hid (show machP m = false from mach_false hlt (row_false hjlt (by rw [HA]; simp [k2])))
                    clear HA
                    go_wp2
                    go_quiet (fail)
                    go_wp2
                    go_ret
                    exact ⟨ret_bool HF.out.symm, below_dN hbi _⟩
                · have HF := Lib.hid (show machP m = false from mach_false hlt (row_false hjlt (by rw [HA]; simp [k1])))
                  clear HA
                  go_wp2
                  go_quiet (fail)
                  go_wp2
                  go_ret
                  exact ⟨ret_bool HF.out.symm, below_dN hbi _⟩
              · have HA := entry_idle hact
                rw [← HN.out, ← HO.out] at HA
                have HACT := Lib.hid hact
                have HA' := Lib.hid HA
                clear HA hact
                by_cases k1 : N = 0
                · by_cases k2 : (O != 0) = true
                  · have HF := Lib.hid (show machP m = false from mach_false hlt (row_false hjlt (by rw [HA'.out]; simp at k2; simp [k2])))
                    by_cases k4 : m.S ≤ (k : Int)
                    all_goals (go_wp2; go_quiet (fail); go_wp2; go_ret; exact ⟨ret_bool HF.out.symm, below_dN hbi _⟩)
                  · have k2' : (O != 0) = false := by simpa using k2
                    clear k2
                    have HF := Lib.hid (show rowUpto m k (j + 1) = true by rw [rowUpto_succ, hU.out, HA'.out]; simp at k2'; simp [k1, k2'])
                    by_cases k4 : m.S ≤ (k : Int)
                    · go_wp2
                      go_quiet (fail)
                      go_wp2
                      go_roundw
                      case rel => exact ⟨j + 1, by omega, by go_num, HF.out, rfl, hmi.drewN _, below_dN hbi _, hszi, hMet.out.idle HACT.out _⟩
                      case measure => simp [intOf]; omega
                    · go_wp2
                      go_quiet (fail)
                      go_wp2
                      go_roundw
                      case rel => exact ⟨j + 1, by omega, by go_num, HF.out, rfl, hmi.drewN _, below_dN hbi _, hszi, hMet.out.idle HACT.out _⟩
                      case measure => simp [intOf]; omega
                · have HF := Lib.hid (show machP m = false from mach_false hlt (row_false hjlt (by rw [HA'.out]; simp [k1])))
                  by_cases k4 : m.S ≤ (k : Int)
                  all_goals (go_wp2; go_quiet (fail); go_wp2; go_ret; exact ⟨ret_bool HF.out.symm, below_dN hbi _⟩)
            · have hj3 : j = 3 := by omega
              subst hj3
              have HF := Lib.hid (show rowsUpto m (k + 1) = true by rw [rowsUpto_succ, hu.out]; exact hU.out)
              go_wp2
              go_roundw
              case rel => exact ⟨k + 1, by omega, by go_num, HF.out, rfl, hmi, hbi, hszi⟩
              case measure => simp [intOf]; omega
        · have hk16 : k = 16 := by omega
          subst hk16
          go_wp2
          go_ret
          exact ⟨ret_bool (HT.out hu.out).symm, hbr⟩
    · go_enter Try.func66, Try.ntmps66
      go_wp2_with (go_at_call 53; refine (l01In_any _ _ _ _).mono ?_; rintro e w' ⟨rfl, rfl⟩)
      go_ret
      exact ⟨ret_bool (HF2.out (by simpa using c2)).symm, hb0⟩
  · go_enter Try.func66, Try.ntmps66
    go_wp2_with (go_at_call 53; refine (l01In_any _ _ _ _).mono ?_; rintro e w' ⟨rfl, rfl⟩)
    go_ret
    exact ⟨ret_bool (HF.out (by simpa using c1)).symm, hb0⟩
end Go.Proofs.Ytmacnofkpdikiaa
