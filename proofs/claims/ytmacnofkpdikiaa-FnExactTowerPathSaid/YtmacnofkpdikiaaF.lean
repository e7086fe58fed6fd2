/- Words of letters. -/
import Derived.Test.YtmacnofkpdikiaaA
namespace Go.Proofs.Ytmacnofkpdikiaa
open Go.RowKit
set_option linter.unusedVariables false
set_option linter.unusedSimpArgs false

/-- is a byte a letter of d? -/
def letB (d : Int) (c : Int) : Bool := decide (48 ≤ c) && decide (c - 48 < d)
def letsUpto (d : Int) (s : ByteArray) (k : Nat) : Bool := (List.range k).all fun i => letB d ((s[i]!).toNat : Int)
def letsP (d : Int) (s : ByteArray) : Bool := letsUpto d s s.size

theorem letsUpto_succ (d : Int) (s : ByteArray) (k : Nat) : letsUpto d s (k + 1) = (letsUpto d s k && letB d ((s[k]!).toNat : Int)) := by
  simp [letsUpto, List.range_succ, List.all_append]
theorem lets_false {d : Int} {s : ByteArray} {k : Nat} (hk : k < s.size) (h : letB d ((s[k]!).toNat : Int) = false) : letsP d s = false := by
  rw [letsP, letsUpto, List.all_eq_false]
  exact ⟨k, by simpa using hk, by simp [h]⟩

set_option maxHeartbeats 400000 in
theorem l01Letters_any (d : Int) (s : ByteArray) (w : World) (hs : Short s) :
    Calls Try.prog 96 #[.int .i64 d, .string s] w fun e w' => e = .returned (.bool (letsP d s)) ∧ w = w' := by
  have hs' : s.size ≤ 9223372036854775807 := hs
  go_enter Try.func96, Try.ntmps96
  go_wp2
  go_loop [4, 5] (fun r i => ∃ k : Nat, k ≤ s.size ∧ i = .int .i64 k ∧ Hid (letsUpto d s k = true) ∧ r = .bool false) (fun _ i => s.size - (intOf i).toNat)
  case atStart => exact ⟨0, Nat.zero_le _, rfl, rfl, rfl⟩
  case round =>
    obtain ⟨k, hk, rfl, hU, rfl⟩ := hrel
    by_cases hlt : k < s.size
    · have hbb : (s[k]).toNat ≤ 255 := by have := (s[k]).toNat_lt; omega
      have hbe : Hid (s[k]! = s[k]) := getElem!_pos s k hlt
      go_wp2
      all_goals first
        | (go_ret; exact ⟨ret_bool (lets_false hlt (by rw [hbe.out]; simp [letB]; omega)).symm, rfl⟩)
        | (go_round; (case rel => exact ⟨k + 1, by omega, by go_num, by show letsUpto d s (k + 1) = true; rw [letsUpto_succ, hU.out, hbe.out]; simp [letB]; omega, rfl⟩); (case measure => (simp [intOf]; omega)))
    · have hk' : k = s.size := by omega
      subst hk'
      go_wp2
      go_ret
      exact ⟨ret_bool hU.out.symm, rfl⟩

/-- is s a word for d letters? -/
def wordP (d : Int) (s : ByteArray) : Bool := letsP d s && decide (s.size ≤ 40)

set_option maxHeartbeats 400000 in
theorem isWord_any (d : Int) (s : ByteArray) (w : World) (hs : Short s) :
    Calls Try.prog 97 #[.int .i64 d, .string s] w fun e w' => e = .returned (.bool (wordP d s)) ∧ w = w' := by
  have hs' : s.size ≤ 9223372036854775807 := hs
  go_enter Try.func97, Try.ntmps97
  go_wp2
  go_loop [4, 8] (fun r i => ∃ k : Nat, k ≤ s.size ∧ i = .int .i64 k ∧ Hid (letsUpto d s k = true) ∧ r = .bool false) (fun _ i => s.size - (intOf i).toNat)
  case atStart => exact ⟨0, Nat.zero_le _, rfl, rfl, rfl⟩
  case round =>
    obtain ⟨k, hk, rfl, hU, rfl⟩ := hrel
    by_cases hlt : k < s.size
    · have hbb : (s[k]).toNat ≤ 255 := by have := (s[k]).toNat_lt; omega
      have hbe : Hid (s[k]! = s[k]) := getElem!_pos s k hlt
      go_wp2
      all_goals first
        | (go_ret; exact ⟨ret_bool (by rw [wordP, lets_false hlt (by rw [hbe.out]; simp [letB]; omega)]; rfl), rfl⟩)
        | (go_round; (case rel => exact ⟨k + 1, by omega, by go_num, by show letsUpto d s (k + 1) = true; rw [letsUpto_succ, hU.out, hbe.out]; simp [letB]; omega, rfl⟩); (case measure => (simp [intOf]; omega)))
    · have hk' : k = s.size := by omega
      subst hk'
      go_wp2
      go_ret
      exact ⟨ret_bool (by rw [wordP, show letsP d s = true from hU.out, Bool.true_and, Bool.eq_iff_iff]; simp; try omega), rfl⟩
end Go.Proofs.Ytmacnofkpdikiaa
