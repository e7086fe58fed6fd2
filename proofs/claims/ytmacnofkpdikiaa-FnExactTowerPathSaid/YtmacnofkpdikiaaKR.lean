/- KnownRelations of the reference. -/
import Derived.Test.YtmacnofkpdikiaaKS
namespace Go.Proofs.Ytmacnofkpdikiaa
open Go.RowKit
set_option linter.unusedVariables false
set_option linter.unusedSimpArgs false
/-- the known machines' names -/
def kn : Nat → List UInt8
  | 0 => [97, 100, 100, 105, 110, 103]
  | 1 => [97, 100, 100, 105, 110, 103, 51]
  | 2 => [97, 108, 101, 115, 104, 105, 110]
  | 3 => [98, 97, 115, 105, 108, 105, 99, 97]
  | 4 => [103, 114, 105, 103, 111, 114, 99, 104, 117, 107]
  | 5 => [103, 117, 112, 116, 97]
  | 6 => [104, 97, 110, 111, 105]
  | _ => [108, 97, 109, 112, 108, 105, 103, 104, 116, 101, 114]
/-- their relations -/
def kr : Nat → List ByteArray
  | 4 => [ByteArray.mk #[98, 98], ByteArray.mk #[99, 99], ByteArray.mk #[100, 100], ByteArray.mk #[101, 101], ByteArray.mk #[99, 100, 101], ByteArray.mk #[98, 101, 98, 101, 98, 101, 98, 101]]
  | 5 => [ByteArray.mk #[98, 98, 98], ByteArray.mk #[99, 99, 99], ByteArray.mk #[98, 100]]
  | 6 => [ByteArray.mk #[98, 98], ByteArray.mk #[99, 99], ByteArray.mk #[100, 100]]
  | 7 => [ByteArray.mk #[65, 98, 65, 98], ByteArray.mk #[66, 97, 65, 66, 97, 97, 65, 98, 65, 65, 98, 97]]
  | _ => []
/-- the number of the name, 8 or more if it is none -/
def kno (s : ByteArray) : Nat := (List.range 8).findIdx fun i => s.toList == kn i
theorem kno_of {s : ByteArray} {i : Nat} (hi : i < 8) (h : (s.toList == kn i) = true) : kno s = i := by
  have e : s.toList = kn i := by simpa using h
  rw [kno, e]
  have : ∀ i : Fin 8, (List.range 8).findIdx (fun j => kn i == kn j) = i := by decide
  exact this ⟨i, hi⟩
theorem kno_none {s : ByteArray} (h : ∀ i, i < 8 → (s.toList == kn i) = false) : kno s = 8 := by
  have : (List.range 8).findIdx (fun i => s.toList == kn i) = (List.range 8).length := by
    rw [List.findIdx_eq_length]
    intro x hx
    rw [h x (by simpa using hx)]
  simpa [kno] using this
/-- it returns a slice of strings of its own and a code -/
def RetS (xs : List ByteArray) (c : Int) (w : World) (e : Ending) (w' : World) : Prop := ∃ v, e = .returned (.tuple #[v, .int .i64 c]) ∧ Below w.heap.size w w' ∧ OwnS w' w.heap.size v xs
theorem OwnS.made (w : World) (xs : List ByteArray) (hx : xs.length ≤ 100) : OwnS (w.alloc (.cells (stv xs).toArray 9)) w.heap.size (.slice (some ⟨w.heap.size, 0, none⟩) xs.length xs.length) xs :=
  ⟨by simp [stv], .inr ⟨w.heap.size, xs.length, (stv xs).toArray, rfl, Nat.le_refl _, heap_alloc_new w _, Nat.le_refl _, by simp [maxLen]; omega, by simp [stv], by simp [stv, List.take_of_length_le]⟩⟩
def krL (s : ByteArray) : List ByteArray := kr (kno s)
def krC (s : ByteArray) : Int := if kno s < 8 then 0 else 4
theorem kr_len (i : Nat) : (kr i).length ≤ 6 := by unfold kr; split <;> decide

set_option maxRecDepth 100000 in
set_option maxHeartbeats 2000000 in
theorem l08Text_any (s : ByteArray) (w : World) : Calls Try.prog 58 #[.string s] w fun e w' => ∃ t, e = .returned (.string t) ∧ (t.toList == []) = decide (8 ≤ kno s) ∧ Below w.heap.size w w' := by
  by_cases h8 : ∃ i, i < 8 ∧ (s.toList == kn i) = true
  · obtain ⟨i, hi, h⟩ := h8
    have hk := Lib.hid (kno_of hi h)
    have e : s.toList = kn i := by simpa using h
    clear h
    go_enter Try.func58, Try.ntmps58
    rcases (by omega : i = 0 ∨ i = 1 ∨ i = 2 ∨ i = 3 ∨ i = 4 ∨ i = 5 ∨ i = 6 ∨ i = 7) with rfl | rfl | rfl | rfl | rfl | rfl | rfl | rfl <;>
    · simp only [kn] at e
      go_wp2_with fail
      go_ret
      exact ⟨_, rfl, by rw [hk.out]; simp, Below.refl _ _⟩
  · have h : ∀ i, i < 8 → (s.toList == kn i) = false := fun i hi => by
      cases hh : s.toList == kn i
      · rfl
      · exact absurd ⟨i, hi, hh⟩ h8
    have hk := Lib.hid (kno_none h)
    have g0 := h 0 (by omega)
    have g1 := h 1 (by omega)
    have g2 := h 2 (by omega)
    have g3 := h 3 (by omega)
    have g4 := h 4 (by omega)
    have g5 := h 5 (by omega)
    have g6 := h 6 (by omega)
    have g7 := h 7 (by omega)
    simp only [kn] at g0 g1 g2 g3 g4 g5 g6 g7
    clear h h8
    go_enter Try.func58, Try.ntmps58
    go_wp2_with fail
    go_ret
    exact ⟨_, rfl, by rw [hk.out]; simp, Below.refl _ _⟩

set_option maxRecDepth 100000 in
set_option maxHeartbeats 4000000 in
theorem specKnownRelations_any (s : ByteArray) (w : World) : Calls Try.prog 17 #[.string s] w (RetS (krL s) (krC s) w) := by
  have HT := Lib.hid (l08Text_any s)
  by_cases h8 : ∃ i, i < 8 ∧ (s.toList == kn i) = true
  · obtain ⟨i, hi, h⟩ := h8
    have hk := kno_of hi h
    have HKL : Hid (krL s = kr i) := by show _ = _; rw [krL, hk]
    have HKC : Hid (krC s = 0) := by show _ = _; rw [krC, hk, if_pos hi]
    have HK : Hid (decide (8 ≤ kno s) = false) := by show _ = _; rw [hk]; simp; omega
    have e : s.toList = kn i := by simpa using h
    clear h hk
    go_enter Try.func17, Try.ntmps17
    rcases (by omega : (i = 0 ∨ i = 1 ∨ i = 2 ∨ i = 3) ∨ (i = 4 ∨ i = 5 ∨ i = 6 ∨ i = 7)) with (rfl | rfl | rfl | rfl) | (rfl | rfl | rfl | rfl)
    any_goals
      simp only [kn] at e
      go_wp2_with fail
      go_ret2
      rw [HKL.out, HKC.out]
      exact ⟨_, rfl, (Below.refl _ _).alloc (Nat.le_refl _) _, OwnS.made w _ (by decide)⟩
    all_goals
      simp only [kn] at e
      go_wp2_with fail
      refine (HT.out _).mono ?_
      rintro e1 w1 ⟨t, rfl, ht, hb1⟩
      rw [HK.out] at ht
      go_wp2_with fail
      go_ret2
      rw [HKL.out, HKC.out]
      exact ⟨_, rfl, hb1.alloc hb1.size _, (OwnS.made w1 _ (by decide)).less hb1.size⟩
  · have h : ∀ i, i < 8 → (s.toList == kn i) = false := fun i hi => by
      cases hh : s.toList == kn i
      · rfl
      · exact absurd ⟨i, hi, hh⟩ h8
    have hk := kno_none h
    have HKL : Hid (krL s = []) := by show _ = _; rw [krL, hk]; rfl
    have HKC : Hid (krC s = 4) := by show _ = _; rw [krC, hk]; rfl
    have HK : Hid (decide (8 ≤ kno s) = true) := by show _ = _; rw [hk]; rfl
    have g4 := h 4 (by omega)
    have g5 := h 5 (by omega)
    have g6 := h 6 (by omega)
    have g7 := h 7 (by omega)
    simp only [kn] at g4 g5 g6 g7
    clear h h8 hk
    go_enter Try.func17, Try.ntmps17
    go_wp2_with fail
    refine (HT.out _).mono ?_
    rintro e1 w1 ⟨t, rfl, ht, hb1⟩
    rw [HK.out] at ht
    go_wp2_with fail
    go_ret2
    rw [HKL.out, HKC.out]
    exact ⟨_, rfl, hb1, OwnS.nil _ _⟩
end Go.Proofs.Ytmacnofkpdikiaa
