/- MoveTower and its reference. -/
import Derived.Test.YtmacnofkpdikiaaH
namespace Go.Proofs.Ytmacnofkpdikiaa
open Go.RowKit
set_option linter.unusedVariables false
set_option linter.unusedSimpArgs false

def goodXY (x y : Int) : Prop := 0 ≤ x ∧ x ≤ 2 ∧ x < y ∧ y ≤ 2
instance (x y : Int) : Decidable (goodXY x y) := by unfold goodXY; infer_instance
def mtC (s : ByteArray) (x y : Int) : Int := if towC (fun _ => s) 1 = 0 then (if goodXY x y then 0 else 2) else towC (fun _ => s) 1
def mtS (s : ByteArray) (x y : Int) : ByteArray := if mtC s x y = 0 then movS (48 + x) (48 + y) s else ByteArray.empty

/-- it returns two values; what was there stays as it was -/
def Ret2 (v u : Value) (w : World) (e : Ending) (w' : World) : Prop := e = .returned (.tuple #[v, u]) ∧ Below w.heap.size w w'
theorem ret2_of {v v' : ByteArray} {u u' : Int} (h : v = v') (k : u = u') : Ending.returned (.tuple #[.string v, .int .i64 u]) = .returned (.tuple #[.string v', .int .i64 u']) := by rw [h, k]

theorem towC_range (ws : Nat → ByteArray) (n : Nat) : 0 ≤ towC ws n ∧ towC ws n ≤ 2 := by unfold towC; split <;> (try split) <;> omega

theorem one_cell (w : World) (s : ByteArray) (T i : Nat) (h : i < 1) : (w.alloc (.cells #[.string s] T)).cell? ⟨w.heap.size, i, none⟩ = some (.string s) := by
  obtain rfl : i = 0 := by omega
  rw [World.cell?_alloc_at _ _ _ _ rfl]; rfl

set_option maxHeartbeats 1000000 in
theorem specMoveTower_any (s : ByteArray) (hs : Short s) (x y : Int) (w : World) :
    Calls Try.prog 15 #[.string s, .int .i64 x, .int .i64 y] w (Ret2 (.string (mtS s x y)) (.int .i64 (mtC s x y)) w) := by
  have hb0 : Below w.heap.size w (w.alloc (.cells #[.string s] 9)) := (Below.refl _ _).alloc (Nat.le_refl _) _
  have hr := towC_range (fun _ => s) 1
  obtain ⟨T, hT⟩ : ∃ T, T = towC (fun _ => s) 1 := ⟨_, rfl⟩
  have HC : Hid (mtC s x y = if T = 0 then (if goodXY x y then 0 else 2) else T) := by rw [hT]; exact rfl
  rw [← hT] at hr
  have HT := Lib.hid hT
  clear hT
  have HO := Lib.hid (one_cell w s 9)
  go_enter Try.func15, Try.ntmps15
  go_wp2_with fail
  refine (l08Tower_any w.heap.size 1 (fun _ => s) _ (by omega) (by omega) (fun _ => hs) (fun i hi => HO.out i hi)).mono ?_
  rintro e w' ⟨rfl, n, rfl⟩
  rw [← HT.out]
  by_cases c0 : T = 0
  · subst c0
    by_cases c1 : goodXY x y
    · have H1 := Lib.hid (show mtC s x y = 0 by rw [HC.out]; simp [c1])
      obtain ⟨a1, a2, a3, a4⟩ := c1
      have e1 : inR x 0 2 = true := by simp [inR]; omega
      have e2 : inR y 0 2 = true := by simp [inR]; omega
      go_wp2_with (first | (go_at_call 53; refine (l01In_any _ _ _ _).mono ?_; rintro e w' ⟨rfl, rfl⟩) | (go_at_call 54; refine (l08Move_any s hs _ _ (by omega) (by omega) (by omega) _).mono ?_; rintro e w' ⟨rfl, hb⟩))
      go_ret2
      exact ⟨ret2_of (by rw [mtS, if_pos H1.out]) (by rw [H1.out]), (below_dN hb0 n).trans (hb.mono (by simp))⟩
    · have H1 := Lib.hid (show mtC s x y = 2 by rw [HC.out]; simp [c1])
      have H2 := Lib.hid (show mtS s x y = ByteArray.empty by rw [mtS, H1.out]; rfl)
      by_cases e1 : inR x 0 2 = true
      · by_cases e2 : inR y 0 2 = true
        · have e3 : y ≤ x := by simp [inR] at e1 e2; unfold goodXY at c1; omega
          clear c1
          go_wp2_with (go_at_call 53; refine (l01In_any _ _ _ _).mono ?_; rintro e w' ⟨rfl, rfl⟩)
          go_ret2
          exact ⟨ret2_of H2.out.symm H1.out.symm, below_dN hb0 n⟩
        · have e2' : inR y 0 2 = false := by simpa using e2
          clear e2 c1
          go_wp2_with (go_at_call 53; refine (l01In_any _ _ _ _).mono ?_; rintro e w' ⟨rfl, rfl⟩)
          go_ret2
          exact ⟨ret2_of H2.out.symm H1.out.symm, below_dN hb0 n⟩
      · have e1' : inR x 0 2 = false := by simpa using e1
        clear e1 c1
        go_wp2_with (go_at_call 53; refine (l01In_any _ _ _ _).mono ?_; rintro e w' ⟨rfl, rfl⟩)
        go_ret2
        exact ⟨ret2_of H2.out.symm H1.out.symm, below_dN hb0 n⟩
  · have H1 := Lib.hid (show mtC s x y = T by rw [HC.out, if_neg c0])
    have H2 := Lib.hid (show mtS s x y = ByteArray.empty by rw [mtS, H1.out, if_neg c0])
    have c1 : (T == 0) = false := by simpa using c0
    have c2 : (T != 0) = true := by simpa using c0
    clear c0
    go_wp2_with (go_at_call 53; refine (l01In_any _ _ _ _).mono ?_; rintro e w' ⟨rfl, rfl⟩)
    go_ret2
    exact ⟨ret2_of H2.out.symm H1.out.symm, below_dN hb0 n⟩

set_option maxHeartbeats 1000000 in
theorem implMoveTower_any (s : ByteArray) (hs : Short s) (x y : Int) (hx : x ≤ 9223372036854775807) (w : World) :
    Calls Try.prog 16 #[.string s, .int .i64 x, .int .i64 y] w (Ret2 (.string (mtS s x y)) (.int .i64 (mtC s x y)) w) := by
  have hb0 : Below w.heap.size w (w.alloc (.cells #[.string s] 9)) := (Below.refl _ _).alloc (Nat.le_refl _) _
  have hr := towC_range (fun _ => s) 1
  obtain ⟨T, hT⟩ : ∃ T, T = towC (fun _ => s) 1 := ⟨_, rfl⟩
  have HC : Hid (mtC s x y = if T = 0 then (if goodXY x y then 0 else 2) else T) := by rw [hT]; exact rfl
  rw [← hT] at hr
  have HT := Lib.hid hT
  clear hT
  have HO := Lib.hid (one_cell w s 9)
  go_enter Try.func16, Try.ntmps16
  go_wp2_with fail
  refine (towersCode_any w.heap.size 1 (fun _ => s) _ (by omega) (by omega) (fun _ => hs) (fun i hi => HO.out i hi)).mono ?_
  rintro e w' ⟨rfl, n, rfl⟩
  rw [← HT.out]
  by_cases c0 : T = 0
  · subst c0
    by_cases e1 : inR x 0 2 = true
    · have a1 : 0 ≤ x ∧ x ≤ 2 := by simp [inR] at e1; omega
      obtain ⟨a1, a2⟩ := a1
      clear hx
      by_cases e2 : inR y (x + 1) 2 = true
      · have a3 : x < y ∧ y ≤ 2 := by simp [inR] at e2; omega
        obtain ⟨a3, a4⟩ := a3
        have H1 := Lib.hid (show mtC s x y = 0 by rw [HC.out]; simp [show goodXY x y from ⟨a1, a2, a3, a4⟩])
        go_wp2_with (first | (go_at_call 56; refine (within_any _ _ _ _).mono ?_; rintro e w' ⟨rfl, rfl⟩) | (go_at_call 57; refine (move_any s hs _ _ (by omega) (by omega) (by omega) _).mono ?_; rintro e w' ⟨rfl, hb⟩))
        go_ret2
        exact ⟨ret2_of (by rw [mtS, if_pos H1.out]) (by rw [H1.out]), (below_dN hb0 n).trans (hb.mono (by simp))⟩
      · have H1 := Lib.hid (show mtC s x y = 2 by rw [HC.out]; simp [show ¬ goodXY x y from fun h => e2 (by obtain ⟨b1, b2, b3, b4⟩ := h; simp [inR]; omega)])
        have H2 := Lib.hid (show mtS s x y = ByteArray.empty by rw [mtS, H1.out]; rfl)
        have e2' : inR y (x + 1) 2 = false := by simpa using e2
        clear e2
        go_wp2_with (go_at_call 56; refine (within_any _ _ _ _).mono ?_; rintro e w' ⟨rfl, rfl⟩)
        go_ret2
        exact ⟨ret2_of H2.out.symm H1.out.symm, below_dN hb0 n⟩
    · have H1 := Lib.hid (show mtC s x y = 2 by rw [HC.out]; simp [show ¬ goodXY x y from fun h => e1 (by obtain ⟨b1, b2, b3, b4⟩ := h; simp [inR]; omega)])
      have H2 := Lib.hid (show mtS s x y = ByteArray.empty by rw [mtS, H1.out]; rfl)
      have e1' : inR x 0 2 = false := by simpa using e1
      clear e1
      go_wp2_with (go_at_call 56; refine (within_any _ _ _ _).mono ?_; rintro e w' ⟨rfl, rfl⟩)
      go_ret2
      exact ⟨ret2_of H2.out.symm H1.out.symm, below_dN hb0 n⟩
  · have H1 := Lib.hid (show mtC s x y = T by rw [HC.out, if_neg c0])
    have H2 := Lib.hid (show mtS s x y = ByteArray.empty by rw [mtS, H1.out, if_neg c0])
    have c2 : (T != 0) = true := by simpa using c0
    clear c0
    go_wp2_with (go_at_call 56; refine (within_any _ _ _ _).mono ?_; rintro e w' ⟨rfl, rfl⟩)
    go_ret2
    exact ⟨ret2_of H2.out.symm H1.out.symm, below_dN hb0 n⟩
end Go.Proofs.Ytmacnofkpdikiaa
