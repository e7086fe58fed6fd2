/- The codes of words of towers. -/
import Derived.Test.YtmacnofkpdikiaaF
import Derived.Test.YtmacnofkpdikiaaB
namespace Go.Proofs.Ytmacnofkpdikiaa
open Go.RowKit
set_option linter.unusedVariables false
set_option linter.unusedSimpArgs false

def tc1 (ws : Nat → ByteArray) (k : Nat) : Bool := (List.range k).all fun i => wordP 3 (ws i)
def tow (ws : Nat → ByteArray) (i : Nat) : Bool := decide (1 ≤ (ws i).size) && decide ((ws i).size ≤ 5) && decide ((ws i).size = (ws 0).size)
def tc2 (ws : Nat → ByteArray) (k : Nat) : Bool := (List.range k).all fun i => tow ws i
def towC (ws : Nat → ByteArray) (n : Nat) : Int := if tc1 ws n = true then (if tc2 ws n = true then 0 else 2) else 1
theorem tc1_succ (ws : Nat → ByteArray) (k : Nat) : tc1 ws (k + 1) = (tc1 ws k && wordP 3 (ws k)) := by simp [tc1, List.range_succ, List.all_append]
theorem tc2_succ (ws : Nat → ByteArray) (k : Nat) : tc2 ws (k + 1) = (tc2 ws k && tow ws k) := by simp [tc2, List.range_succ, List.all_append]
theorem towC_1 {ws : Nat → ByteArray} {n k : Nat} (hk : k < n) (h : wordP 3 (ws k) = false) : towC ws n = 1 := by
  have : tc1 ws n = false := by rw [tc1, List.all_eq_false]; exact ⟨k, by simpa using hk, by simp [h]⟩
  simp [towC, this]
theorem towC_2 {ws : Nat → ByteArray} {n k : Nat} (h1 : tc1 ws n = true) (hk : k < n) (h : tow ws k = false) : towC ws n = 2 := by
  have : tc2 ws n = false := by rw [tc2, List.all_eq_false]; exact ⟨k, by simpa using hk, by simp [h]⟩
  simp [towC, this, h1]

set_option maxHeartbeats 1000000 in
theorem l08Tower_any (b n : Nat) (ws : Nat → ByteArray) (w : World) (hn : 1 ≤ n) (hn4 : n ≤ 4) (hs : ∀ i, Short (ws i))
    (hc : ∀ i, i < n → w.cell? ⟨b, i, none⟩ = some (.string (ws i))) :
    Calls Try.prog 52 #[.slice (some ⟨b, 0, none⟩) n n] w (RetQ (.int .i64 (towC ws n)) w) := by
  have hc0 := hc 0 (by omega)
  have HSS := Lib.hid hs
  clear hs
  go_enter Try.func52, Try.ntmps52
  go_wp2
  go_loop [2, 3] (fun r i => ∃ k : Nat, k ≤ n ∧ i = .int .i64 k ∧ Hid (tc1 ws k = true) ∧ r = .int .i64 0) (fun _ i => n - (intOf i).toNat)
  case atStart => exact ⟨0, Nat.zero_le _, rfl, rfl, rfl⟩
  case round =>
    obtain ⟨k, hk, rfl, hU, rfl⟩ := hrel
    by_cases hlt : k < n
    · have hck := hc k hlt
      have HS := Lib.hid (HSS.out k)
      obtain ⟨s, hws⟩ : ∃ s, s = ws k := ⟨_, rfl⟩
      rw [← hws] at hck HS
      have HW := Lib.hid hws
      clear hws hc hc0
      by_cases c1 : s.size ≤ 40
      · by_cases c2 : letsP 3 s = true
        · go_wp2_with (go_at_call 96; refine (l01Letters_any _ _ _ HS.out).mono ?_; rintro e w' ⟨rfl, rfl⟩)
          go_round
          case rel => exact ⟨k + 1, by omega, by go_num, by show tc1 ws (k + 1) = true; rw [tc1_succ, hU.out, ← HW.out, wordP, c2]; simpa using c1, rfl⟩
          case measure => simp [intOf]; omega
        · have c2' : letsP 3 s = false := by simpa using c2
          clear c2
          go_wp2_with (go_at_call 96; refine (l01Letters_any _ _ _ HS.out).mono ?_; rintro e w' ⟨rfl, rfl⟩)
          go_ret
          exact ⟨ret_int (towC_1 hlt (by rw [← HW.out, wordP, c2']; rfl)).symm, 0, rfl⟩
      · go_wp2_with (go_at_call 96; refine (l01Letters_any _ _ _ HS.out).mono ?_; rintro e w' ⟨rfl, rfl⟩)
        go_ret
        exact ⟨ret_int (towC_1 hlt (by rw [← HW.out, wordP]; simp [c1])).symm, 0, rfl⟩
    · have hk' : k = n := by omega
      subst hk'
      have HT1 := hU
      go_wp2
      go_loopw [2, 4] (fun r i wr => ∃ j m : Nat, j ≤ k ∧ i = .int .i64 j ∧ Hid (tc2 ws j = true) ∧ r = .int .i64 0 ∧ wr = w.drewN m) (fun _ i _ => k - (intOf i).toNat)
      case atStart => exact ⟨0, 0, Nat.zero_le _, rfl, rfl, rfl, rfl⟩
      case round =>
        obtain ⟨j, m, hj, rfl, hU2, rfl, rfl⟩ := hrel
        by_cases hlt2 : j < k
        · have hcj := hc j hlt2
          have HC : Hid (tow ws j = (decide (1 ≤ (ws j).size) && decide ((ws j).size ≤ 5) && decide ((ws j).size = (ws 0).size))) := rfl
          have i1 : (j : Int) < k := by omega
          have i2 : (0 : Int) ≤ (j : Int) := by omega
          have i3 : (0 : Int) < k := by omega
          by_cases d1 : 1 ≤ (ws j).size
          · by_cases d2 : (ws j).size ≤ 5
            · by_cases d3 : (ws j).size = (ws 0).size
              · have HF := Lib.hid (show tc2 ws (j + 1) = true by rw [tc2_succ, hU2.out, HC.out]; simp [d1, d2, ← d3])
                have e1 : decide (((ws j).size : Int) < 1) = false := by simp; omega
                have e2 : decide (5 < ((ws j).size : Int)) = false := by simp; omega
                have e3 : (((ws j).size : Int) != ((ws 0).size : Int)) = false := by simp [d3]
                clear d3 d1 d2
                go_wp2
                go_quiet (fail)
                go_wp2
                go_roundw
                case rel => first | exact ⟨j + 1, _, by omega, by go_num, HF.out, rfl, rfl⟩ | (obtain ⟨z, hz⟩ := dN2 w m nq; exact ⟨j + 1, z, by omega, by go_num, HF.out, rfl, hz⟩)
                case measure => simp [intOf]; omega
              · have HF := Lib.hid (towC_2 HT1.out hlt2 (by rw [HC.out]; simp [d3]))
                have e1 : decide (((ws j).size : Int) < 1) = false := by simp; omega
                have e2 : decide (5 < ((ws j).size : Int)) = false := by simp; omega
                have e3 : (((ws j).size : Int) != ((ws 0).size : Int)) = true := by simp; omega
                clear d3 d1 d2
                go_wp2
                go_quiet (fail)
                go_wp2
                go_ret
                first | exact retQ0 (vint HF.out.symm) | exact retQ1 (vint HF.out.symm) _ | exact retQ2 (vint HF.out.symm) _ _
            · have HF := Lib.hid (towC_2 HT1.out hlt2 (by rw [HC.out]; simp [d2]))
              have e1 : decide (((ws j).size : Int) < 1) = false := by simp; omega
              have e2 : decide (5 < ((ws j).size : Int)) = true := by simp; omega
              clear d1 d2
              go_wp2
              go_quiet (fail)
              go_wp2
              go_ret
              first | exact retQ0 (vint HF.out.symm) | exact retQ1 (vint HF.out.symm) _ | exact retQ2 (vint HF.out.symm) _ _
          · have HF := Lib.hid (towC_2 HT1.out hlt2 (by rw [HC.out]; simp [d1]))
            have e1 : decide (((ws j).size : Int) < 1) = true := by simp; omega
            clear d1
            go_wp2
            go_quiet (fail)
            go_wp2
            go_ret
            first | exact retQ0 (vint HF.out.symm) | exact retQ1 (vint HF.out.symm) _ | exact retQ2 (vint HF.out.symm) _ _
        · have hj' : j = k := by omega
          subst hj'
          have HF := Lib.hid (show towC ws j = 0 by simp [towC, HT1.out, hU2.out])
          go_wp2
          go_ret
          first | exact retQ0 (vint HF.out.symm) | exact retQ1 (vint HF.out.symm) _ | exact retQ2 (vint HF.out.symm) _ _

set_option maxHeartbeats 1000000 in
theorem towersCode_any (b n : Nat) (ws : Nat → ByteArray) (w : World) (hn : 1 ≤ n) (hn4 : n ≤ 4) (hs : ∀ i, Short (ws i))
    (hc : ∀ i, i < n → w.cell? ⟨b, i, none⟩ = some (.string (ws i))) :
    Calls Try.prog 55 #[.slice (some ⟨b, 0, none⟩) n n] w (RetQ (.int .i64 (towC ws n)) w) := by
  have hc0 := hc 0 (by omega)
  have HSS := Lib.hid hs
  clear hs
  go_enter Try.func55, Try.ntmps55
  go_wp2
  go_loop [2, 9] (fun r i => ∃ k : Nat, k ≤ n ∧ i = .int .i64 k ∧ Hid (tc1 ws k = true) ∧ r = .int .i64 0) (fun _ i => n - (intOf i).toNat)
  case atStart => exact ⟨0, Nat.zero_le _, rfl, rfl, rfl⟩
  case round =>
    obtain ⟨k, hk, rfl, hU, rfl⟩ := hrel
    by_cases hlt : k < n
    · have hck := hc k hlt
      have HS := Lib.hid (HSS.out k)
      obtain ⟨s, hws⟩ : ∃ s, s = ws k := ⟨_, rfl⟩
      rw [← hws] at hck HS
      have HW := Lib.hid hws
      clear hws hc hc0
      by_cases c2 : wordP 3 s = true
      · go_wp2_with (go_at_call 97; refine (isWord_any _ _ _ HS.out).mono ?_; rintro e w' ⟨rfl, rfl⟩)
        go_round
        case rel => exact ⟨k + 1, by omega, by go_num, by show tc1 ws (k + 1) = true; rw [tc1_succ, hU.out, ← HW.out, c2]; rfl, rfl⟩
        case measure => simp [intOf]; omega
      · have c2' : wordP 3 s = false := by simpa using c2
        clear c2
        go_wp2_with (go_at_call 97; refine (isWord_any _ _ _ HS.out).mono ?_; rintro e w' ⟨rfl, rfl⟩)
        go_ret
        exact ⟨ret_int (towC_1 hlt (by rw [← HW.out, c2'])).symm, 0, rfl⟩
    · have hk' : k = n := by omega
      subst hk'
      have HT1 := hU
      go_wp2
      go_loop [2, 19] (fun r i => ∃ j : Nat, j ≤ k ∧ i = .int .i64 j ∧ Hid (tc2 ws j = true) ∧ r = .int .i64 0) (fun _ i => k - (intOf i).toNat)
      case atStart => exact ⟨0, Nat.zero_le _, rfl, rfl, rfl⟩
      case round =>
        obtain ⟨j, hj, rfl, hU2, rfl⟩ := hrel
        by_cases hlt2 : j < k
        · have hcj := hc j hlt2
          have HC : Hid (tow ws j = (decide (1 ≤ (ws j).size) && decide ((ws j).size ≤ 5) && decide ((ws j).size = (ws 0).size))) := rfl
          have i1 : (j : Int) < k := by omega
          have i2 : (0 : Int) ≤ (j : Int) := by omega
          have i3 : (0 : Int) < k := by omega
          by_cases d1 : inR ((ws j).size : Int) 1 5 = true
          · have d1' : 1 ≤ (ws j).size ∧ (ws j).size ≤ 5 := by simp [inR] at d1; omega
            have HD := Lib.hid d1'
            clear d1'
            by_cases d3 : (ws j).size = (ws 0).size
            · have HF := Lib.hid (show tc2 ws (j + 1) = true by rw [tc2_succ, hU2.out, HC.out]; simp [HD.out.1, HD.out.2, ← d3])
              have e3 : (((ws j).size : Int) != ((ws 0).size : Int)) = false := by simp [d3]
              clear d3
              go_wp2_with (go_at_call 56; refine (within_any _ _ _ _).mono ?_; rintro e w' ⟨rfl, rfl⟩)
              go_round
              case rel => exact ⟨j + 1, by omega, by go_num, HF.out, rfl⟩
              case measure => simp [intOf]; omega
            · have HF := Lib.hid (towC_2 HT1.out hlt2 (by rw [HC.out]; simp [d3]))
              have e3 : (((ws j).size : Int) != ((ws 0).size : Int)) = true := by simp; omega
              clear d3
              go_wp2_with (go_at_call 56; refine (within_any _ _ _ _).mono ?_; rintro e w' ⟨rfl, rfl⟩)
              go_ret
              exact retQ0 (vint HF.out.symm)
          · have d1' : inR ((ws j).size : Int) 1 5 = false := by simpa using d1
            have HF := Lib.hid (towC_2 HT1.out hlt2 (by rw [HC.out]; simp [inR] at d1; simp; omega))
            clear d1
            go_wp2_with (go_at_call 56; refine (within_any _ _ _ _).mono ?_; rintro e w' ⟨rfl, rfl⟩)
            go_ret
            exact retQ0 (vint HF.out.symm)
        · have hj' : j = k := by omega
          subst hj'
          have HF := Lib.hid (show towC ws j = 0 by simp [towC, HT1.out, hU2.out])
          go_wp2
          go_ret
          exact retQ0 (vint HF.out.symm)
end Go.Proofs.Ytmacnofkpdikiaa
