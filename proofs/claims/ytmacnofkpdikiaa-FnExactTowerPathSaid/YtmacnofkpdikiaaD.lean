/- IsMachine and its reference. -/
import Derived.Test.YtmacnofkpdikiaaC
namespace Go.Proofs.Ytmacnofkpdikiaa
open Go.RowKit
set_option linter.unusedVariables false
set_option linter.unusedSimpArgs false

theorem MAt.alloc {w : World} {b o : Nat} {m : Mch} (h : MAt w b o m) (hb : b < w.heap.size) (ob : Obj) : MAt (w.alloc ob) b o m :=
  fun j v hj => (World.cell?_alloc_past _ _ _ hb).trans (h j v hj)
theorem MAt.setCell {w : World} {b o : Nat} {m : Mch} (h : MAt w b o m) {a : Addr} (hb : b ≠ a.block) (u : Value) : MAt (w.setCell a u) b o m :=
  fun j v hj => (World.cell?_setCell_other _ _ _ _ (by intro e; apply hb; rw [e])).trans (h j v hj)

def rowsUpto (m : Mch) (k : Nat) : Bool := (List.range k).all fun q => rowP m q
theorem rowsUpto_succ (m : Mch) (k : Nat) : rowsUpto m (k + 1) = (rowsUpto m k && rowP m k) := by
  simp [rowsUpto, List.range_succ, List.all_append]
theorem mach_false {m : Mch} {k : Nat} (hk : k < 16) (h : rowP m k = false) : machP m = false := by
  have : (List.range 16).all (fun q => rowP m q) = false := by
    rw [List.all_eq_false]
    exact ⟨k, by simpa using hk, by simp [h]⟩
  simp [machP, this]

set_option maxHeartbeats 1000000 in
theorem IsMachine_any (m : Mch) (hwf : m.Wf) (w : World) :
    Calls Try.prog 94 #[.agg m.cells.toArray] w (Ret (.bool (machP m)) w) := by
  have hm := MAt.boxed w m 44
  have hl : (w.alloc (.cells m.cells.toArray 44)).cell? ⟨w.heap.size, 0, none⟩ = some (.int .i64 m.L) := hm.l
  have hs : (w.alloc (.cells m.cells.toArray 44)).cell? ⟨w.heap.size, 1, none⟩ = some (.int .i64 m.S) := hm.s
  have hb0 : Below w.heap.size w (w.alloc (.cells m.cells.toArray 44)) := (Below.refl _ _).alloc (Nat.le_refl _) _
  have HF : Hid (inR m.L 2 3 = false → machP m = false) := fun h => by simp [machP, h]
  have HF2 : Hid (inR m.S 1 16 = false → machP m = false) := fun h => by simp [machP, h]
  by_cases c1 : inR m.L 2 3 = true
  · by_cases c2 : inR m.S 1 16 = true
    · have hL : m.L ≤ 3 := by simp [inR] at c1; omega
      have HT : Hid (rowsUpto m 16 = true → machP m = true) := fun h => by simp [machP, c1, c2]; simpa [rowsUpto] using h
      go_enter Try.func94, Try.ntmps94
      go_wp2_with (first | (go_at_call 125; refine (areLetters_any _ _).mono ?_; rintro e w' ⟨rfl, rfl⟩) | (go_at_call 56; refine (within_any _ _ _ _).mono ?_; rintro e w' ⟨rfl, rfl⟩))
      go_loopw [2, 14] (fun r x wr => ∃ k n : Nat, k ≤ 16 ∧ x = .int .i64 k ∧ rowsUpto m k = true ∧ r = .bool false ∧ wr = (w.alloc (.cells m.cells.toArray 44)).drewN n) (fun _ x _ => 16 - (intOf x).toNat)
      case atStart => exact ⟨0, 0, by omega, rfl, rfl, rfl, rfl⟩
      case round =>
        obtain ⟨k, n, hk, rfl, hu, rfl, rfl⟩ := hrel
        have HU := Lib.hid hu
        clear hu
        by_cases hlt : k < 16
        · have i1 : (k : Int) < 16 := by omega
          go_wp2_with (go_at_call 126; refine (isRow_any _ 0 m hwf k hlt _ (hm.drewN n) hL).mono ?_; rintro e w' ⟨rfl, n', rfl⟩)
          · have hr : (!rowP m k) = true := by assumption
            go_ret
            exact ⟨ret_bool (mach_false hlt (by simpa using hr)).symm, below_dN hb0 _⟩
          · have hr : (!rowP m k) = false := by assumption
            go_roundw
            case rel => exact ⟨k + 1, _, by omega, by go_num, by rw [rowsUpto_succ, HU.out]; simpa using hr, rfl, rfl⟩
            case measure => simp [intOf]; omega
        · have hk16 : k = 16 := by omega
          subst hk16
          go_wp2
          go_ret
          exact ⟨ret_bool (HT.out HU.out).symm, below_dN hb0 _⟩
    · go_enter Try.func94, Try.ntmps94
      go_wp2_with (first | (go_at_call 125; refine (areLetters_any _ _).mono ?_; rintro e w' ⟨rfl, rfl⟩) | (go_at_call 56; refine (within_any _ _ _ _).mono ?_; rintro e w' ⟨rfl, rfl⟩))
      go_ret
      exact ⟨ret_bool (HF2.out (by simpa using c2)).symm, hb0⟩
  · go_enter Try.func94, Try.ntmps94
    go_wp2_with (first | (go_at_call 125; refine (areLetters_any _ _).mono ?_; rintro e w' ⟨rfl, rfl⟩) | (go_at_call 56; refine (within_any _ _ _ _).mono ?_; rintro e w' ⟨rfl, rfl⟩))
    go_ret
    exact ⟨ret_bool (HF.out (by simpa using c1)).symm, hb0⟩
end Go.Proofs.Ytmacnofkpdikiaa
