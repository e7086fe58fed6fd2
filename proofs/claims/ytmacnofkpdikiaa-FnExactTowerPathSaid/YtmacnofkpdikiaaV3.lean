/- Levels; numbers of words; codes of levels: contracts of both sides. -/
import Derived.Test.YtmacnofkpdikiaaV2
import Derived.Test.YtmacnofkpdikiaaE
namespace Go.Proofs.Ytmacnofkpdikiaa
open Go.RowKit
set_option linter.unusedVariables false
set_option linter.unusedSimpArgs false

theorem Try.info9 : (Try.prog.info? 9).map (fun i => (i.zero, i.size, i.bytes)) = some (some (.string ⟨#[]⟩), 1, 16) := by kernel_rfl

def strs (d n k : Nat) : List Value := (List.range k).map fun i => .string (txt (digs d n i))
theorem strs_length (d n k : Nat) : (strs d n k).length = k := by simp [strs]
theorem strs_succ (d n k : Nat) : strs d n (k + 1) = strs d n k ++ [.string (txt (digs d n k))] := by simp [strs, List.range_succ]
theorem strs_get {d n k i : Nat} (h : i < k) : (strs d n k)[i]? = some (.string (txt (digs d n i))) := by simp [strs, h]

set_option maxRecDepth 100000 in
set_option maxHeartbeats 1000000 in
theorem level_any (d n : Nat) (h2 : 2 ≤ d) (h3 : d ≤ 3) (hn : n + d ≤ 7) (w : World) :
    Calls Try.prog 114 #[.int .i64 d, .int .i64 n] w fun e w' => ∃ v, e = .returned v ∧ Below w.heap.size w w' ∧ w'.ownsRow w.heap.size 9 1 v (d ^ n) (strs d n (d ^ n)) := by
  obtain ⟨i0, hi, hz0, hz1, hz2⟩ := info_parts Try.info9
  have hp := pow_level h2 h3 hn
  have hM0 := (Mm.start w).addNil 9
  go_enter Try.func114, Try.ntmps114
  go_wp2_with fail
  refine (power_any d n (by omega) (by omega) _).mono ?_
  rintro e w' ⟨rfl, rfl⟩
  obtain ⟨P, hP⟩ : ∃ P, P = d ^ n := ⟨_, rfl⟩
  rw [← hP] at hp
  rw [← hP]
  have HP := Lib.hid hP
  clear hP
  go_wp2_with fail
  go_loopw [5, 10] (fun v i wr => ∃ k : Nat, k ≤ P ∧ i = .int .i64 k ∧ Mm w.heap.size w wr [] [(v, 9, strs d n k)]) (fun _ i _ => P - (intOf i).toNat)
  case atStart => exact ⟨0, Nat.zero_le _, rfl, hM0⟩
  case round =>
    clear hM0
    obtain ⟨k, hk, rfl, hM⟩ := hrel
    by_cases hlt : k < P
    · go_wp2_with fail
      refine (wordOf_any d n k h2 h3 (by omega) (by omega) _).mono ?_
      rintro e w1 ⟨rfl, hb1⟩
      have hM1 := hM.call hb1
      have hl := strs_length d n k
      have HS := Lib.hid (strs_succ d n k)
      clear hM
      go_wp2_with (at_builtin; refine Mm.append rfl (.tmp 13) (.tmp 18) 25 rfl hM1 0 rfl Try.underlying25 hi hz0 hz1 hz2 rfl rfl rfl rfl (by omega) (by omega) ?_)
      intro g cap w2 hM2
      (try simp only [strs_length, List.set_cons_zero] at hM2)
      (try rw [strs_length])
      rw [← HS.out] at hM2
      have HM2 := Lib.hid hM2
      clear hM1 hM2
      go_wp2_with fail
      go_roundw
      case rel => exact ⟨k + 1, by omega, by go_num, HM2.out⟩
      case measure => simp [intOf]; omega
    · have hk' : k = P := by omega
      subst hk'
      have hb := hM.below
      have ho := Lib.hid (hM.own _ (List.mem_cons_self ..))
      clear hM
      go_wp2_with fail
      go_ret
      refine ⟨_, rfl, hb, ?_⟩
      have := ho.out
      simp only [strs_length] at this
      rw [← HP.out]
      exact this

theorem numL_step {d : Nat} {s : ByteArray} {k : Nat} (hk : k < s.size) : numL d ((lts s).take (k + 1)) = numL d ((lts s).take k) * d + ((s[k]).toNat - 48) := by
  rw [lts_take_succ hk, numL_snoc]
theorem numL_bound {L : Int} {d : Nat} (hd : d ≤ 3) (hL : L = d) {s : ByteArray} (hs : letsP L s = true) (h30 : s.size ≤ 29) (k : Nat) (hk : k ≤ s.size) : numL d ((lts s).take k) ≤ 205891132094649 := by
  have h1 : ∀ x ∈ (lts s).take k, x < d := fun x hx => by
    have hx' := List.mem_of_mem_take hx
    obtain ⟨j, hj⟩ := List.mem_iff_getElem?.1 hx'
    have hlt : j < s.size := by have := (List.getElem?_eq_some_iff.1 hj).1; rwa [lts_length] at this
    rw [lts_get hlt] at hj
    have := lets_at hs hlt
    have := Option.some.inj hj
    omega
  have h2 := numL_lt _ h1
  have h3 : ((lts s).take k).length = k := by rw [List.length_take, lts_length]; omega
  rw [h3] at h2
  have := pow30 (k := k) hd (by omega)
  omega

set_option maxRecDepth 100000 in
set_option maxHeartbeats 1000000 in
theorem numberOf_any (d : Nat) (hd : d ≤ 3) (s : ByteArray) (hs : letsP d s = true) (h30 : s.size ≤ 28) (w : World) :
    Calls Try.prog 120 #[.int .i64 d, .string s] w fun e w' => e = .returned (.int .i64 ((numL d (lts s) : Nat) : Int)) ∧ w = w' := by
  have HS := Lib.hid hs
  clear hs
  go_enter Try.func120, Try.ntmps120
  go_wp2
  go_loop [5, 9] (fun n i => ∃ k : Nat, k ≤ s.size ∧ i = .int .i64 k ∧ n = .int .i64 ((numL d ((lts s).take k) : Nat) : Int)) (fun _ i => s.size - (intOf i).toNat)
  case atStart => exact ⟨0, Nat.zero_le _, rfl, rfl⟩
  case round =>
    obtain ⟨k, hk, rfl, rfl⟩ := hrel
    by_cases hlt : k < s.size
    · obtain ⟨x, hx⟩ : ∃ x : Nat, (s[k]).toNat = 48 + x := ⟨(s[k]).toNat - 48, by have := (lets_at HS.out hlt).1; omega⟩
      have hx3 : x < 3 := by have := (lets_at HS.out hlt).2; omega
      have HN := Lib.hid (numL_step (d := d) hlt)
      rw [hx, Nat.add_sub_cancel_left] at HN
      have hb1 := numL_bound hd rfl HS.out (by omega) k hk
      have hb2 := numL_bound hd rfl HS.out (by omega) (k + 1) (by omega)
      rw [numL_step hlt, hx, Nat.add_sub_cancel_left] at hb2
      have hbx : ((s[k]).toNat : Int) = 48 + (x : Int) := by omega
      clear hx
      obtain ⟨N, hN⟩ : ∃ N, N = numL d ((lts s).take k) := ⟨_, rfl⟩
      rw [← hN] at HN hb1 hb2
      rw [← hN]
      have HNN := Lib.hid hN
      clear hN
      have i1 : 0 ≤ (N : Int) * (d : Int) := Int.mul_nonneg (by omega) (by omega)
      have i2 : (N : Int) * (d : Int) ≤ 205891132094649 := by rw [← Int.natCast_mul]; omega
      have HC : Hid ((((N * d + x : Nat)) : Int) = (N : Int) * (d : Int) + (x : Int)) := by show _ = _; rw [Int.natCast_add, Int.natCast_mul]
      have i3 : (0 : Int) ≤ (k : Int) := by omega
      have i4 : (k : Int) < s.size := by omega
      clear hb2
      go_wp2
      go_round
      case rel => exact ⟨k + 1, by omega, by go_num, by rw [HN.out, HC.out]; first | rfl | (congr 1; omega)⟩
      case measure => simp [intOf]; omega
    · have HA : Hid ((lts s).take k = lts s) := List.take_of_length_le (by rw [lts_length]; omega)
      rw [HA.out]
      go_wp2
      go_ret
      exact ⟨rfl, rfl⟩

set_option maxRecDepth 100000 in
set_option maxHeartbeats 1000000 in
theorem l01NumberOf_any (d : Nat) (hd : d ≤ 3) (s : ByteArray) (hs : letsP d s = true) (h30 : s.size ≤ 28) (w : World) :
    Calls Try.prog 62 #[.int .i64 d, .string s] w fun e w' => e = .returned (.int .i64 ((numL d (lts s) : Nat) : Int)) ∧ w = w' := by
  have HS := Lib.hid hs
  clear hs
  go_enter Try.func62, Try.ntmps62
  go_wp2
  go_loop [5, 6] (fun n i => ∃ k : Nat, k ≤ s.size ∧ i = .int .i64 k ∧ n = .int .i64 ((numL d ((lts s).take k) : Nat) : Int)) (fun _ i => s.size - (intOf i).toNat)
  case atStart => exact ⟨0, Nat.zero_le _, rfl, rfl⟩
  case round =>
    obtain ⟨k, hk, rfl, rfl⟩ := hrel
    by_cases hlt : k < s.size
    · obtain ⟨x, hx⟩ : ∃ x : Nat, (s[k]).toNat = 48 + x := ⟨(s[k]).toNat - 48, by have := (lets_at HS.out hlt).1; omega⟩
      have hx3 : x < 3 := by have := (lets_at HS.out hlt).2; omega
      have HN := Lib.hid (numL_step (d := d) hlt)
      rw [hx, Nat.add_sub_cancel_left] at HN
      have hb1 := numL_bound hd rfl HS.out (by omega) k hk
      have hb2 := numL_bound hd rfl HS.out (by omega) (k + 1) (by omega)
      rw [numL_step hlt, hx, Nat.add_sub_cancel_left] at hb2
      have hbx : ((s[k]).toNat : Int) = 48 + (x : Int) := by omega
      clear hx
      obtain ⟨N, hN⟩ : ∃ N, N = numL d ((lts s).take k) := ⟨_, rfl⟩
      rw [← hN] at HN hb1 hb2
      rw [← hN]
      have HNN := Lib.hid hN
      clear hN
      have i1 : 0 ≤ (N : Int) * (d : Int) := Int.mul_nonneg (by omega) (by omega)
      have i2 : (N : Int) * (d : Int) ≤ 205891132094649 := by rw [← Int.natCast_mul]; omega
      have HC : Hid ((((N * d + x : Nat)) : Int) = (N : Int) * (d : Int) + (x : Int)) := by show _ = _; rw [Int.natCast_add, Int.natCast_mul]
      have i3 : (0 : Int) ≤ (k : Int) := by omega
      have i4 : (k : Int) < s.size := by omega
      clear hb2
      go_wp2
      go_round
      case rel => exact ⟨k + 1, by omega, by go_num, by rw [HN.out, HC.out]; first | rfl | (congr 1; omega)⟩
      case measure => simp [intOf]; omega
    · have HA : Hid ((lts s).take k = lts s) := List.take_of_length_le (by rw [lts_length]; omega)
      rw [HA.out]
      go_wp2
      go_ret
      exact ⟨rfl, rfl⟩

set_option maxHeartbeats 1000000 in
theorem isLevel_any (b o : Nat) (m : Mch) (hwf : m.Wf) (hok : m.Ok) (n : Int) (w : World) (hm : MAt w b o m) :
    Calls Try.prog 113 #[.pointer (some ⟨b, o, none⟩), .int .i64 n] w fun e w' => e = .returned (.bool (inR n 0 (7 - m.L))) ∧ w = w' := by
  have hl := hm.l
  have h1 := hok.l2
  have h2 := hok.l3
  go_enter Try.func113, Try.ntmps113
  by_cases h : 0 ≤ n ∧ n ≤ 5
  · have e1 : inR n 0 5 = true := by simp [inR]; omega
    by_cases hL : m.L = 2
    · have HF : Hid (inR n 0 (7 - m.L) = true) := by show _ = _; simp [inR]; omega
      have hL' : (m.L == 2) = true := by simpa using hL
      clear hL
      go_wp2_with (go_at_call 56; refine (within_any _ _ _ _).mono ?_; rintro e w' ⟨rfl, rfl⟩)
      go_ret
      exact ⟨ret_bool HF.out.symm, rfl⟩
    · have hL' : (m.L == 2) = false := by simpa using hL
      have HF : Hid (inR n 0 (7 - m.L) = decide (n < 5)) := by
        show _ = _
        have : m.L = 3 := by omega
        simp only [inR, this, h.1, decide_true, Bool.true_and]
        congr 1
        rw [eq_iff_iff]; omega
      clear hL
      go_wp2_with (go_at_call 56; refine (within_any _ _ _ _).mono ?_; rintro e w' ⟨rfl, rfl⟩)
      go_ret
      exact ⟨ret_bool HF.out.symm, rfl⟩
  · have e1 : inR n 0 5 = false := by simp [inR]; omega
    have HF : Hid (inR n 0 (7 - m.L) = false) := by show _ = _; simp [inR]; omega
    clear h
    go_wp2_with (go_at_call 56; refine (within_any _ _ _ _).mono ?_; rintro e w' ⟨rfl, rfl⟩)
    go_ret
    exact ⟨ret_bool HF.out.symm, rfl⟩

set_option maxRecDepth 100000 in
set_option maxHeartbeats 1000000 in
theorem levelCode_any (m : Mch) (hwf : m.Wf) (n : Int) (w : World) :
    Calls Try.prog 84 #[.agg m.cells.toArray, .int .i64 n] w (Ret (.int .i64 (levC m n)) w) := by
  have hm := MAt.boxed w m 44
  have hb0 := boxedBelow w m.cells.toArray 44
  go_enter Try.func84, Try.ntmps84
  go_wp2_with ((with_reducible refine ld_mach ?_ (.tmp 2) ?_ (w.heap.size) (0) ?_ m hm hwf ?_); exact rfl; exact rfl; exact rfl)
  refine (IsMachine_any m hwf _).mono ?_
  rintro e w1 ⟨rfl, hb1⟩
  have hm1 := hm.keep hb1 hwf
  have hbb := hb0.trans (hb1.mono hb0.size)
  by_cases c1 : machP m = true
  · have hok := mach_ok c1
    have HF : Hid (levC m n = if inR n 0 (7 - m.L) then 0 else 2) := by show _ = _; rw [levC, if_pos c1]
    rw [c1]
    cases c2 : inR n 0 (7 - m.L)
    · rw [c2] at HF
      simp only [Bool.false_eq_true, if_false] at HF
      go_wp2_with (go_at_call 113; refine (isLevel_any w.heap.size 0 m hwf hok n _ hm1).mono ?_; rintro e w' ⟨rfl, rfl⟩)
      go_ret
      exact ⟨ret_int HF.out.symm, hbb⟩
    · rw [c2] at HF
      simp only [if_true] at HF
      go_wp2_with (go_at_call 113; refine (isLevel_any w.heap.size 0 m hwf hok n _ hm1).mono ?_; rintro e w' ⟨rfl, rfl⟩)
      go_ret
      exact ⟨ret_int HF.out.symm, hbb⟩
  · have HF : Hid (levC m n = 1) := by show _ = _; rw [levC, if_neg c1]
    have c1' : machP m = false := by simpa using c1
    clear c1
    rw [c1']
    go_wp2_with fail
    go_ret
    exact ⟨ret_int HF.out.symm, hbb⟩

set_option maxRecDepth 100000 in
set_option maxHeartbeats 1000000 in
theorem l05Code_any (m : Mch) (hwf : m.Wf) (n : Int) (w : World) :
    Calls Try.prog 81 #[.agg m.cells.toArray, .int .i64 n] w (Ret (.int .i64 (levC m n)) w) := by
  have hm := MAt.boxed w m 44
  have hb0 := boxedBelow w m.cells.toArray 44
  go_enter Try.func81, Try.ntmps81
  go_wp2_with ((with_reducible refine ld_mach ?_ (.tmp 2) ?_ (w.heap.size) (0) ?_ m hm hwf ?_); exact rfl; exact rfl; exact rfl)
  refine (l01Is_any m hwf _).mono ?_
  rintro e w1 ⟨rfl, hb1⟩
  have hm1 := hm.keep hb1 hwf
  have hl1 := hm1.l
  have hbb := hb0.trans (hb1.mono hb0.size)
  by_cases c1 : machP m = true
  · have hok := mach_ok c1
    have h1 := hok.l2
    have h2 := hok.l3
    have HF : Hid (levC m n = if inR n 0 (7 - m.L) then 0 else 2) := by show _ = _; rw [levC, if_pos c1]
    rw [c1]
    cases c2 : inR n 0 (7 - m.L)
    · rw [c2] at HF
      simp only [Bool.false_eq_true, if_false] at HF
      go_wp2_with (go_at_call 53; refine (l01In_any _ _ _ _).mono ?_; rintro e w' ⟨rfl, rfl⟩)
      go_ret
      exact ⟨ret_int HF.out.symm, hbb⟩
    · rw [c2] at HF
      simp only [if_true] at HF
      go_wp2_with (go_at_call 53; refine (l01In_any _ _ _ _).mono ?_; rintro e w' ⟨rfl, rfl⟩)
      go_ret
      exact ⟨ret_int HF.out.symm, hbb⟩
  · have HF : Hid (levC m n = 1) := by show _ = _; rw [levC, if_neg c1]
    have c1' : machP m = false := by simpa using c1
    clear c1
    rw [c1']
    go_wp2_with fail
    go_ret
    exact ⟨ret_int HF.out.symm, hbb⟩
end Go.Proofs.Ytmacnofkpdikiaa
