import Derived.Test.YthgkkaifdlkciaaYTile03
import Derived.Test.YthgkkaifdlkciaaYTile02
import Derived.Test.YthgkkaifdlkciaaYTile01
import Derived.Laws.OwnMore
/- Levels; numbers of words; codes of levels: contracts of both sides. -/
namespace Go.Proofs.Ythgkkaifdlkciaa
open Go.RowKit
set_option linter.unusedVariables false
set_option linter.unusedSimpArgs false

theorem Try.info9 : (Try.prog.info? 9).map (fun i => (i.zero, i.size, i.bytes)) = some (some (.string ⟨#[]⟩), 1, 16) := by kernel_rfl

def strs (d n k : Nat) : List Value := (List.range k).map fun i => .string (txt (digs d n i))
theorem strs_length (d n k : Nat) : (strs d n k).length = k := by simp [strs]
theorem strs_succ (d n k : Nat) : strs d n (k + 1) = strs d n k ++ [.string (txt (digs d n k))] := by simp [strs, List.range_succ]
theorem strs_get {d n k i : Nat} (h : i < k) : (strs d n k)[i]? = some (.string (txt (digs d n i))) := by simp [strs, h]

set_option maxRecDepth 100000 in
set_option maxHeartbeats 1000000 in
theorem level_any (d n : Nat) (h2 : 2 ≤ d) (h3 : d ≤ 3) (hn : n + d ≤ 7) (w : World) :
    Calls Try.prog 65 #[.int .i64 d, .int .i64 n] w fun e w' => ∃ v, e = .returned v ∧ Below w.heap.size w w' ∧ w'.ownsRow w.heap.size 9 1 v (d ^ n) (strs d n (d ^ n)) := by
  obtain ⟨i0, hi, hz0, hz1, hz2⟩ := info_parts Try.info9
  have hp := pow_level h2 h3 hn
  have hM0 := (Mm.start w).addNil 9
  go_enter Try.func65, Try.ntmps65
  go_wp2_with fail
  refine (power_any d n (by omega) (by omega) _).mono ?_
  rintro e w' ⟨rfl, rfl⟩
  obtain ⟨P, hP⟩ : ∃ P, P = d ^ n := ⟨_, rfl⟩
  rw [← hP] at hp
  rw [← hP]
  have HP := Lib.hid hP
  clear hP
  go_wp2_with fail
  go_loopw [5, 10] (fun v i wr => ∃ k : Nat, k ≤ P ∧ i = .int .i64 k ∧ Mm w.heap.size w wr [] [(v, 9, strs d n k)]) (fun _ i _ => P - (intOf i).toNat)
  case atStart => exact ⟨0, Nat.zero_le _, rfl, hM0⟩
  case round =>
    clear hM0
    obtain ⟨k, hk, rfl, hM⟩ := hrel
    by_cases hlt : k < P
    · go_wp2_with fail
      refine (wordOf_any d n k h2 h3 (by omega) (by omega) _).mono ?_
      rintro e w1 ⟨rfl, hb1⟩
      have hM1 := hM.call hb1
      have hl := strs_length d n k
      have HS := Lib.hid (strs_succ d n k)
      clear hM
      go_wp2_with (at_builtin; refine Mm.append rfl (.tmp 13) (.tmp 18) 90 rfl hM1 0 rfl Try.underlying90 hi hz0 hz1 hz2 rfl rfl rfl rfl (by omega) (by omega) ?_)
      intro g cap w2 hM2
      (try simp only [strs_length, List.set_cons_zero] at hM2)
      (try rw [strs_length])
      rw [← HS.out] at hM2
      have HM2 := Lib.hid hM2
      clear hM1 hM2
      go_wp2_with fail
      go_roundw
      case rel => exact ⟨k + 1, by omega, by go_num, HM2.out⟩
      case measure => simp [intOf]; omega
    · have hk' : k = P := by omega
      subst hk'
      have hb := hM.below
      have ho := Lib.hid (hM.own _ (List.mem_cons_self ..))
      clear hM
      go_wp2_with fail
      go_ret
      refine ⟨_, rfl, hb, ?_⟩
      have := ho.out
      simp only [strs_length] at this
      rw [← HP.out]
      exact this

theorem numL_step {d : Nat} {s : ByteArray} {k : Nat} (hk : k < s.size) : numL d ((lts s).take (k + 1)) = numL d ((lts s).take k) * d + ((s[k]).toNat - 48) := by
  rw [lts_take_succ hk, numL_snoc]
theorem numL_bound {L : Int} {d : Nat} (hd : d ≤ 3) (hL : L = d) {s : ByteArray} (hs : letsP L s = true) (h30 : s.size ≤ 29) (k : Nat) (hk : k ≤ s.size) : numL d ((lts s).take k) ≤ 205891132094649 := by
  have h1 : ∀ x ∈ (lts s).take k, x < d := fun x hx => by
    have hx' := List.mem_of_mem_take hx
    obtain ⟨j, hj⟩ := List.mem_iff_getElem?.1 hx'
    have hlt : j < s.size := by have := (List.getElem?_eq_some_iff.1 hj).1; rwa [lts_length] at this
    rw [lts_get hlt] at hj
    have := lets_at hs hlt
    have := Option.some.inj hj
    omega
  have h2 := numL_lt _ h1
  have h3 : ((lts s).take k).length = k := by rw [List.length_take, lts_length]; omega
  rw [h3] at h2
  have := pow30 (k := k) hd (by omega)
  omega

set_option maxRecDepth 100000 in
set_option maxHeartbeats 1000000 in
theorem numberOf_any (d : Nat) (hd : d ≤ 3) (s : ByteArray) (hs : letsP d s = true) (h30 : s.size ≤ 28) (w : World) :
    Calls Try.prog 67 #[.int .i64 d, .string s] w fun e w' => e = .returned (.int .i64 ((numL d (lts s) : Nat) : Int)) ∧ w = w' := by
  have HS := Lib.hid hs
  clear hs
  go_enter Try.func67, Try.ntmps67
  go_wp2
  go_loop [5, 9] (fun n i => ∃ k : Nat, k ≤ s.size ∧ i = .int .i64 k ∧ n = .int .i64 ((numL d ((lts s).take k) : Nat) : Int)) (fun _ i => s.size - (intOf i).toNat)
  case atStart => exact ⟨0, Nat.zero_le _, rfl, rfl⟩
  case round =>
    obtain ⟨k, hk, rfl, rfl⟩ := hrel
    by_cases hlt : k < s.size
    · obtain ⟨x, hx⟩ : ∃ x : Nat, (s[k]).toNat = 48 + x := ⟨(s[k]).toNat - 48, by have := (lets_at HS.out hlt).1; omega⟩
      have hx3 : x < 3 := by have := (lets_at HS.out hlt).2; omega
      have HN := Lib.hid (numL_step (d := d) hlt)
      rw [hx, Nat.add_sub_cancel_left] at HN
      have hb1 := numL_bound hd rfl HS.out (by omega) k hk
      have hb2 := numL_bound hd rfl HS.out (by omega) (k + 1) (by omega)
      rw [numL_step hlt, hx, Nat.add_sub_cancel_left] at hb2
      have hbx : ((s[k]).toNat : Int) = 48 + (x : Int) := by omega
      clear hx
      obtain ⟨N, hN⟩ : ∃ N, N = numL d ((lts s).take k) := ⟨_, rfl⟩
      rw [← hN] at HN hb1 hb2
      rw [← hN]
      have HNN := Lib.hid hN
      clear hN
      have i1 : 0 ≤ (N : Int) * (d : Int) := Int.mul_nonneg (by omega) (by omega)
      have i2 : (N : Int) * (d : Int) ≤ 205891132094649 := by rw [← Int.natCast_mul]; omega
      have HC : Hid ((((N * d + x : Nat)) : Int) = (N : Int) * (d : Int) + (x : Int)) := by show _ = _; rw [Int.natCast_add, Int.natCast_mul]
      have i3 : (0 : Int) ≤ (k : Int) := by omega
      have i4 : (k : Int) < s.size := by omega
      clear hb2
      go_wp2
      go_round
      case rel => exact ⟨k + 1, by omega, by go_num, by rw [HN.out, HC.out]; first | rfl | (congr 1; omega)⟩
      case measure => simp [intOf]; omega
    · have HA : Hid ((lts s).take k = lts s) := List.take_of_length_le (by rw [lts_length]; omega)
      rw [HA.out]
      go_wp2
      go_ret
      exact ⟨rfl, rfl⟩

set_option maxRecDepth 100000 in
set_option maxHeartbeats 1000000 in
theorem l01NumberOf_any (d : Nat) (hd : d ≤ 3) (s : ByteArray) (hs : letsP d s = true) (h30 : s.size ≤ 28) (w : World) :
    Calls Try.prog 63 #[.int .i64 d, .string s] w fun e w' => e = .returned (.int .i64 ((numL d (lts s) : Nat) : Int)) ∧ w = w' := by
  have HS := Lib.hid hs
  clear hs
  go_enter Try.func63, Try.ntmps63
  go_wp2
  go_loop [5, 6] (fun n i => ∃ k : Nat, k ≤ s.size ∧ i = .int .i64 k ∧ n = .int .i64 ((numL d ((lts s).take k) : Nat) : Int)) (fun _ i => s.size - (intOf i).toNat)
  case atStart => exact ⟨0, Nat.zero_le _, rfl, rfl⟩
  case round =>
    obtain ⟨k, hk, rfl, rfl⟩ := hrel
    by_cases hlt : k < s.size
    · obtain ⟨x, hx⟩ : ∃ x : Nat, (s[k]).toNat = 48 + x := ⟨(s[k]).toNat - 48, by have := (lets_at HS.out hlt).1; omega⟩
      have hx3 : x < 3 := by have := (lets_at HS.out hlt).2; omega
      have HN := Lib.hid (numL_step (d := d) hlt)
      rw [hx, Nat.add_sub_cancel_left] at HN
      have hb1 := numL_bound hd rfl HS.out (by omega) k hk
      have hb2 := numL_bound hd rfl HS.out (by omega) (k + 1) (by omega)
      rw [numL_step hlt, hx, Nat.add_sub_cancel_left] at hb2
      have hbx : ((s[k]).toNat : Int) = 48 + (x : Int) := by omega
      clear hx
      obtain ⟨N, hN⟩ : ∃ N, N = numL d ((lts s).take k) := ⟨_, rfl⟩
      rw [← hN] at HN hb1 hb2
      rw [← hN]
      have HNN := Lib.hid hN
      clear hN
      have i1 : 0 ≤ (N : Int) * (d : Int) := Int.mul_nonneg (by omega) (by omega)
      have i2 : (N : Int) * (d : Int) ≤ 205891132094649 := by rw [← Int.natCast_mul]; omega
      have HC : Hid ((((N * d + x : Nat)) : Int) = (N : Int) * (d : Int) + (x : Int)) := by show _ = _; rw [Int.natCast_add, Int.natCast_mul]
      have i3 : (0 : Int) ≤ (k : Int) := by omega
      have i4 : (k : Int) < s.size := by omega
      clear hb2
      go_wp2
      go_round
      case rel => exact ⟨k + 1, by omega, by go_num, by rw [HN.out, HC.out]; first | rfl | (congr 1; omega)⟩
      case measure => simp [intOf]; omega
    · have HA : Hid ((lts s).take k = lts s) := List.take_of_length_le (by rw [lts_length]; omega)
      rw [HA.out]
      go_wp2
      go_ret
      exact ⟨rfl, rfl⟩

set_option maxHeartbeats 1000000 in
theorem isLevel_any (b o : Nat) (m : Mch) (hwf : m.Wf) (hok : m.Ok) (n : Int) (w : World) (hm : MAt w b o m) :
    Calls Try.prog 64 #[.pointer (some ⟨b, o, none⟩), .int .i64 n] w fun e w' => e = .returned (.bool (inR n 0 (7 - m.L))) ∧ w = w' := by
  have hl := hm.l
  have h1 := hok.l2
  have h2 := hok.l3
  go_enter Try.func64, Try.ntmps64
  by_cases h : 0 ≤ n ∧ n ≤ 5
  · have e1 : inR n 0 5 = true := by simp [inR]; omega
    by_cases hL : m.L = 2
    · have HF : Hid (inR n 0 (7 - m.L) = true) := by show _ = _; simp [inR]; omega
      have hL' : (m.L == 2) = true := by simpa using hL
      clear hL
      go_wp2_with (go_at_call 48; refine (within_any _ _ _ _).mono ?_; rintro e w' ⟨rfl, rfl⟩)
      go_ret
      exact ⟨ret_bool HF.out.symm, rfl⟩
    · have hL' : (m.L == 2) = false := by simpa using hL
      have HF : Hid (inR n 0 (7 - m.L) = decide (n < 5)) := by
        show _ = _
        have : m.L = 3 := by omega
        simp only [inR, this, h.1, decide_true, Bool.true_and]
        congr 1
        rw [eq_iff_iff]; omega
      clear hL
      go_wp2_with (go_at_call 48; refine (within_any _ _ _ _).mono ?_; rintro e w' ⟨rfl, rfl⟩)
      go_ret
      exact ⟨ret_bool HF.out.symm, rfl⟩
  · have e1 : inR n 0 5 = false := by simp [inR]; omega
    have HF : Hid (inR n 0 (7 - m.L) = false) := by show _ = _; simp [inR]; omega
    clear h
    go_wp2_with (go_at_call 48; refine (within_any _ _ _ _).mono ?_; rintro e w' ⟨rfl, rfl⟩)
    go_ret
    exact ⟨ret_bool HF.out.symm, rfl⟩

set_option maxRecDepth 100000 in
set_option maxHeartbeats 1000000 in
theorem levelCode_any (m : Mch) (hwf : m.Wf) (n : Int) (w : World) :
    Calls Try.prog 38 #[.agg m.cells.toArray, .int .i64 n] w (Ret (.int .i64 (levC m n)) w) := by
  have hm := MAt.boxed w m 28
  have hb0 := boxedBelow w m.cells.toArray 28
  go_enter Try.func38, Try.ntmps38
  go_wp2_with ((with_reducible refine ld_mach ?_ (.tmp 2) ?_ (w.heap.size) (0) ?_ m hm hwf ?_); exact rfl; exact rfl; exact rfl)
  refine (IsMachine_any m hwf _).mono ?_
  rintro e w1 ⟨rfl, hb1⟩
  have hm1 := hm.keep hb1 hwf
  have hbb := hb0.trans (hb1.mono hb0.size)
  by_cases c1 : machP m = true
  · have hok := mach_ok c1
    have HF : Hid (levC m n = if inR n 0 (7 - m.L) then 0 else 2) := by show _ = _; rw [levC, if_pos c1]
    rw [c1]
    cases c2 : inR n 0 (7 - m.L)
    · rw [c2] at HF
      simp only [Bool.false_eq_true, if_false] at HF
      go_wp2_with (go_at_call 64; refine (isLevel_any w.heap.size 0 m hwf hok n _ hm1).mono ?_; rintro e w' ⟨rfl, rfl⟩)
      go_ret
      exact ⟨ret_int HF.out.symm, hbb⟩
    · rw [c2] at HF
      simp only [if_true] at HF
      go_wp2_with (go_at_call 64; refine (isLevel_any w.heap.size 0 m hwf hok n _ hm1).mono ?_; rintro e w' ⟨rfl, rfl⟩)
      go_ret
      exact ⟨ret_int HF.out.symm, hbb⟩
  · have HF : Hid (levC m n = 1) := by show _ = _; rw [levC, if_neg c1]
    have c1' : machP m = false := by simpa using c1
    clear c1
    rw [c1']
    go_wp2_with fail
    go_ret
    exact ⟨ret_int HF.out.symm, hbb⟩

set_option maxRecDepth 100000 in
set_option maxHeartbeats 1000000 in
theorem l05Code_any (m : Mch) (hwf : m.Wf) (n : Int) (w : World) :
    Calls Try.prog 35 #[.agg m.cells.toArray, .int .i64 n] w (Ret (.int .i64 (levC m n)) w) := by
  have hm := MAt.boxed w m 28
  have hb0 := boxedBelow w m.cells.toArray 28
  go_enter Try.func35, Try.ntmps35
  go_wp2_with ((with_reducible refine ld_mach ?_ (.tmp 2) ?_ (w.heap.size) (0) ?_ m hm hwf ?_); exact rfl; exact rfl; exact rfl)
  refine (l01Is_any m hwf _).mono ?_
  rintro e w1 ⟨rfl, hb1⟩
  have hm1 := hm.keep hb1 hwf
  have hl1 := hm1.l
  have hbb := hb0.trans (hb1.mono hb0.size)
  by_cases c1 : machP m = true
  · have hok := mach_ok c1
    have h1 := hok.l2
    have h2 := hok.l3
    have HF : Hid (levC m n = if inR n 0 (7 - m.L) then 0 else 2) := by show _ = _; rw [levC, if_pos c1]
    rw [c1]
    cases c2 : inR n 0 (7 - m.L)
    · rw [c2] at HF
      simp only [Bool.false_eq_true, if_false] at HF
      go_wp2_with (go_at_call 41; refine (l01In_any _ _ _ _).mono ?_; rintro e w' ⟨rfl, rfl⟩)
      go_ret
      exact ⟨ret_int HF.out.symm, hbb⟩
    · rw [c2] at HF
      simp only [if_true] at HF
      go_wp2_with (go_at_call 41; refine (l01In_any _ _ _ _).mono ?_; rintro e w' ⟨rfl, rfl⟩)
      go_ret
      exact ⟨ret_int HF.out.symm, hbb⟩
  · have HF : Hid (levC m n = 1) := by show _ = _; rw [levC, if_neg c1]
    have c1' : machP m = false := by simpa using c1
    clear c1
    rw [c1']
    go_wp2_with fail
    go_ret
    exact ⟨ret_int HF.out.symm, hbb⟩
end Go.Proofs.Ythgkkaifdlkciaa

/- Tables: two slices of rows under one pointer, while they are built. -/
namespace Go.Proofs.Ythgkkaifdlkciaa
open Go.RowKit
set_option linter.unusedVariables false
set_option linter.unusedSimpArgs false

def i64s (xs : List Int) : List Value := xs.map (Value.int .i64)
theorem i64s_get {xs : List Int} {i : Nat} (h : i < xs.length) : (i64s xs)[i]? = some (.int .i64 (xs[i]?.getD 0)) := by
  simp [i64s, List.getElem?_eq_getElem h]
theorem i64s_length (xs : List Int) : (i64s xs).length = xs.length := by simp [i64s]

/-- v is a slice of the values xs, at the head of a block of E's that nobody has frozen -/
def RowV (w : World) (E : TypeId) (v : Value) (xs : List Value) : Prop :=
  ∃ g c cur, v = .slice (some ⟨g, 0, none⟩) xs.length c ∧ w.heap[g]? = some (.cells cur E (0, 0)) ∧ cur.toList.take xs.length = xs
theorem RowV.same {w w' : World} {E : TypeId} {v : Value} {xs : List Value} (h : RowV w E v xs) (hb : ∀ (g : Nat) (cur : Array Value), w.heap[g]? = some (.cells cur E (0, 0)) → w'.heap[g]? = some (.cells cur E (0, 0))) : RowV w' E v xs := by
  obtain ⟨g, c, cur, hv, hg, ht⟩ := h
  exact ⟨g, c, cur, hv, hb g cur hg, ht⟩
theorem RowV.keep {w w' : World} {E : TypeId} {v : Value} {xs : List Value} (h : RowV w E v xs) (hb : Below w.heap.size w w') : RowV w' E v xs :=
  h.same fun g cur hg => (hb.block g (Array.getElem?_eq_some_iff.1 hg).1).trans hg
theorem RowV.of_own {w : World} {base : Nat} {E : TypeId} {v : Value} {xs : List Value} (h : w.ownsRow base E 1 v xs.length xs) (h0 : 0 < xs.length) : RowV w E v xs := by
  rcases h.2 with ⟨_, e⟩ | ⟨g, cap, cur, rfl, hb, hg, h1, h2, h3, h4⟩
  · omega
  · exact ⟨g, cap, cur, rfl, hg, by simpa using h4⟩
theorem RowV.cell {w : World} {E : TypeId} {v : Value} {xs : List Value} (h : RowV w E v xs) : ∃ g c, v = .slice (some ⟨g, 0, none⟩) xs.length c ∧ ∀ i (hi : i < xs.length), w.cell? ⟨g, i, none⟩ = some xs[i] := by
  obtain ⟨g, c, cur, hv, hg, ht⟩ := h
  refine ⟨g, c, hv, fun i hi => ?_⟩
  rw [cell_of_row w g i _ E _ hg, ← Array.getElem?_toList, ← List.getElem?_take_of_lt hi, ht, List.getElem?_eq_getElem hi]

/-- an append to a row of another type leaves it -/
theorem RowV.grown {w w' : World} {E F : TypeId} {v o : Value} {xs ys : List Value} {base n : Nat} (h : RowV w E v xs) (hg : w.grownBy w' o.ownBlock) (ho : w.ownsRow base F 1 o n ys) (hne : E ≠ F) : RowV w' E v xs :=
  h.same fun g cur hc => by
    rw [hg.block g (Array.getElem?_eq_some_iff.1 hc).1 (fun e => ?_)]; exact hc
    rcases ho.2 with ⟨rfl, _⟩ | ⟨g', cap, cur', rfl, _, hg', _⟩
    · simp [Value.ownBlock] at e
    · simp [Value.ownBlock] at e
      subst e
      rw [hg'] at hc
      simp at hc
      exact hne hc.2.symm
theorem Blk.grown {w w' : World} {b T F : Nat} {cs ys : List Value} {o : Value} {base n : Nat} (h : Blk w b cs T) (hg : w.grownBy w' o.ownBlock) (ho : w.ownsRow base F 1 o n ys) (hne : T ≠ F) : Blk w' b cs T := by
  show _ = _
  rw [hg.block b h.lt (fun e => ?_)]; exact h
  rcases ho.2 with ⟨rfl, _⟩ | ⟨g', cap, cur', rfl, _, hg', _⟩
  · simp [Value.ownBlock] at e
  · simp [Value.ownBlock] at e
    subst e
    have := hg'.symm.trans h
    simp at this
    exact hne this.2.symm

/-- slices of rows -/
def RowsV (w : World) (E : TypeId) (rs : List Value) (N : List (List Value)) : Prop := rs.length = N.length ∧ ∀ (i : Nat) (v : Value) (xs : List Value), rs[i]? = some v → N[i]? = some xs → RowV w E v xs
theorem RowsV.same {w w' : World} {E : TypeId} {rs : List Value} {N : List (List Value)} (h : RowsV w E rs N) (hk : ∀ v xs, RowV w E v xs → RowV w' E v xs) : RowsV w' E rs N :=
  ⟨h.1, fun i v xs h1 h2 => hk v xs (h.2 i v xs h1 h2)⟩
theorem RowsV.add {w : World} {E : TypeId} {rs : List Value} {N : List (List Value)} {v : Value} {xs : List Value} (h : RowsV w E rs N) (hv : RowV w E v xs) : RowsV w E (rs ++ [v]) (N ++ [xs]) := by
  refine ⟨by simp [h.1], fun i u ys h1 h2 => ?_⟩
  by_cases hi : i < rs.length
  · rw [List.getElem?_append_left hi] at h1
    rw [List.getElem?_append_left (by rw [← h.1]; exact hi)] at h2
    exact h.2 i u ys h1 h2
  · rw [List.getElem?_append_right (by omega)] at h1
    rw [List.getElem?_append_right (by rw [← h.1]; omega), ← h.1] at h2
    by_cases e : i - rs.length = 0
    · rw [e] at h1 h2; simp at h1 h2; subst h1; subst h2; exact hv
    · rw [List.getElem?_eq_none (by simp; omega)] at h1; cases h1

/-- what table() has made so far: the pair (tN, tO) lies in block T; vN and vO are the slices of rows, behind the appends -/
structure TabM (B : Nat) (w : World) (T : Nat) (tN tO vN vO : Value) (rN rO : List Value) (N O : List (List Value)) (v5 : Value) (x5 : List Value) (v6 : Value) (x6 : List Value) : Prop where
  bs : B ≤ w.heap.size
  blk : Blk w T [tN, tO] 83
  oN : w.ownsRow B 31 1 vN rN.length rN
  oO : w.ownsRow B 31 1 vO rO.length rO
  ne : vN.ownBlock = none ∨ vN.ownBlock ≠ vO.ownBlock
  rowsN : RowsV w 2 rN N
  rowsO : RowsV w 2 rO O
  r5 : RowV w 2 v5 x5
  r6 : RowV w 2 v6 x6
section
variable {B : Nat} {w w' : World} {T : Nat} {tN tO vN vO : Value} {rN rO : List Value} {N O : List (List Value)} {v5 v6 : Value} {x5 x6 : List Value}
theorem TabM.keep (h : TabM B w T tN tO vN vO rN rO N O v5 x5 v6 x6) (hb : Below w.heap.size w w') : TabM B w' T tN tO vN vO rN rO N O v5 x5 v6 x6 := by
  have hg : w.grownBy w' none := ⟨hb.os, hb.tape, hb.output, hb.size, fun k hk _ => hb.block k hk⟩
  exact ⟨Nat.le_trans h.bs hb.size, h.blk.keep hb, h.oN.kept hg (by by_cases e : vN.ownBlock = none <;> simp [e]), h.oO.kept hg (by by_cases e : vO.ownBlock = none <;> simp [e]), h.ne,
    h.rowsN.same fun _ _ h => h.keep hb, h.rowsO.same fun _ _ h => h.keep hb, h.r5.keep hb, h.r6.keep hb⟩
theorem TabM.alloc (h : TabM B w T tN tO vN vO rN rO N O v5 x5 v6 x6) (o : Obj) : TabM B (w.alloc o) T tN tO vN vO rN rO N O v5 x5 v6 x6 :=
  h.keep ((Below.refl _ w).alloc (Nat.le_refl _) o)
theorem TabM.drew (h : TabM B w T tN tO vN vO rN rO N O v5 x5 v6 x6) : TabM B w.drew T tN tO vN vO rN rO N O v5 x5 v6 x6 := ⟨h.bs, h.blk, h.oN, h.oO, h.ne, h.rowsN.same fun _ _ h => h.same fun _ _ h => h, h.rowsO.same fun _ _ h => h.same fun _ _ h => h, h.r5.same fun _ _ h => h, h.r6.same fun _ _ h => h⟩
theorem TabM.appN (h : TabM B w T tN tO vN vO rN rO N O v5 x5 v6 x6) {v : Value} {g cap : Nat} (hv : v = .slice (some ⟨g, 0, none⟩) (rN.length + 1) cap)
    (ho : w'.ownsRow B 31 1 v (rN.length + 1) (rN ++ [v5])) (hg : w.grownBy w' vN.ownBlock) (hl : vN.ownBlock = some g ∨ g = w.heap.size) :
    TabM B w' T tN tO v vO (rN ++ [v5]) rO (N ++ [x5]) O v5 x5 v6 x6 := by
  have r5' := h.r5.grown hg h.oN (by decide)
  refine ⟨Nat.le_trans h.bs hg.size, h.blk.grown hg h.oN (by decide), by simpa using ho, h.oO.kept hg ?_, ?_, (h.rowsN.same fun _ _ h' => h'.grown hg h.oN (by decide)).add r5', h.rowsO.same fun _ _ h' => h'.grown hg h.oN (by decide), r5', h.r6.grown hg h.oN (by decide)⟩
  · rcases h.ne with e | e
    · rw [e]; by_cases e' : vO.ownBlock = none <;> simp [e']
    · exact .inr (Ne.symm e)
  · right
    subst hv
    intro e
    simp only [Value.ownBlock] at e
    rcases hl with hl | hl
    · rcases h.ne with e' | e'
      · rw [e'] at hl; cases hl
      · rw [hl] at e'; exact e' e
    · have := (h.oO.lt g e.symm).2; omega
theorem TabM.appO (h : TabM B w T tN tO vN vO rN rO N O v5 x5 v6 x6) {v : Value} {g cap : Nat} (hv : v = .slice (some ⟨g, 0, none⟩) (rO.length + 1) cap)
    (ho : w'.ownsRow B 31 1 v (rO.length + 1) (rO ++ [v6])) (hg : w.grownBy w' vO.ownBlock) (hl : vO.ownBlock = some g ∨ g = w.heap.size) :
    TabM B w' T tN tO vN v rN (rO ++ [v6]) N (O ++ [x6]) v5 x5 v6 x6 := by
  have r6' := h.r6.grown hg h.oO (by decide)
  refine ⟨Nat.le_trans h.bs hg.size, h.blk.grown hg h.oO (by decide), h.oN.kept hg h.ne, by simpa using ho, ?_, h.rowsN.same fun _ _ h' => h'.grown hg h.oO (by decide), (h.rowsO.same fun _ _ h' => h'.grown hg h.oO (by decide)).add r6', h.r5.grown hg h.oO (by decide), r6'⟩
  subst hv
  by_cases e0 : vN.ownBlock = none
  · exact .inl e0
  · right
    intro e
    simp only [Value.ownBlock] at e
    rcases hl with hl | hl
    · rcases h.ne with e' | e'
      · exact e0 e'
      · rw [hl] at e'; exact e' e
    · have := (h.oN.lt g e).2; omega
/-- the stores at the end -/
theorem TabM.store (h : TabM B w T tN tO vN vO rN rO N O v5 x5 v6 x6) : TabM B ((w.setCell ⟨T, 0, none⟩ vN).setCell ⟨T, 1, none⟩ vO) T vN vO vN vO rN rO N O v5 x5 v6 x6 := by
  have hs : ∀ (w : World) (i : Nat) (u : Value) (cs : List Value), Blk w T cs 83 → ∀ (E : TypeId), E ≠ 83 → ∀ (g : Nat) (cur : Array Value), w.heap[g]? = some (.cells cur E (0, 0)) → (w.setCell ⟨T, i, none⟩ u).heap[g]? = some (.cells cur E (0, 0)) := by
    intro w i u cs hb E hE g cur hg
    rw [heap_setCell_other w ⟨T, i, none⟩ g u (fun e => ?_)]; exact hg
    simp only at e
    subst e
    have := hg.symm.trans hb
    simp at this
    exact hE this.2
  have h1 := h.blk.setCell 0 vN
  have h2 := h1.setCell 1 vO
  have go : ∀ (E : TypeId), E ≠ 83 → ∀ (g : Nat) (cur : Array Value), w.heap[g]? = some (.cells cur E (0, 0)) → ((w.setCell ⟨T, 0, none⟩ vN).setCell ⟨T, 1, none⟩ vO).heap[g]? = some (.cells cur E (0, 0)) :=
    fun E hE g cur hg => hs _ 1 vO _ h1 E hE g cur (hs _ 0 vN _ h.blk E hE g cur hg)
  have own : ∀ {v : Value} {n : Nat} {xs : List Value}, w.ownsRow B 31 1 v n xs → ((w.setCell ⟨T, 0, none⟩ vN).setCell ⟨T, 1, none⟩ vO).ownsRow B 31 1 v n xs := fun ho => by
    refine ⟨ho.1, ?_⟩
    rcases ho.2 with hn | ⟨g, cap, cur, hv, hb, hg, rest⟩
    · exact .inl hn
    · exact .inr ⟨g, cap, cur, hv, hb, go _ (by decide) g cur hg, rest⟩
  refine ⟨?_, ?_, own h.oN, own h.oO, h.ne, h.rowsN.same fun _ _ h' => h'.same (go _ (by decide)), h.rowsO.same fun _ _ h' => h'.same (go _ (by decide)), h.r5.same (go _ (by decide)), h.r6.same (go _ (by decide))⟩
  · have := h.bs; simpa [World.setCell] using this
  · simpa using h2
end
/-- the block of an element to be appended, apart from both slices -/
def TmpB (w : World) (t : Nat) (v vN vO : Value) : Prop := Blk w t [v] 31 ∧ vN.ownBlock ≠ some t ∧ vO.ownBlock ≠ some t
section
variable {B : Nat} {w w' : World} {T t g cap n : Nat} {tN tO vN vO v u : Value} {rN rO : List Value} {N O : List (List Value)} {v5 v6 : Value} {x5 x6 : List Value}
theorem TabM.tmp (h : TabM B w T tN tO vN vO rN rO N O v5 x5 v6 x6) (v : Value) : TmpB (w.alloc (.cells #[v] 31)) w.heap.size v vN vO :=
  ⟨Blk.new w #[v] _, fun e => by have := (h.oN.lt _ e).2; omega, fun e => by have := (h.oO.lt _ e).2; omega⟩
theorem TmpB.alloc (h : TmpB w t v vN vO) (o : Obj) : TmpB (w.alloc o) t v vN vO := ⟨h.1.alloc o, h.2⟩
theorem TmpB.appN (h : TmpB w t v vN vO) (hg : w.grownBy w' vN.ownBlock) (hl : vN.ownBlock = some g ∨ g = w.heap.size) : TmpB w' t v (.slice (some ⟨g, 0, none⟩) n cap) vO := by
  refine ⟨(hg.block t h.1.lt (fun e => h.2.1 e.symm)).trans h.1, fun e => ?_, h.2.2⟩
  simp only [Value.ownBlock] at e
  rcases hl with hl | hl
  · exact h.2.1 (hl.trans e)
  · have := h.1.lt; simp at e; omega
theorem TmpB.news (h : TmpB w t v vN vO) : ∀ j u, [v][j]? = some u → w.cell? ((⟨t, 0, none⟩ : Addr).add j) = some u := by
  intro j u hj
  match j, hj with
  | 0, hj => simp at hj; subst hj; simpa [Addr.add] using h.1.cell' (i := 0) rfl
theorem TabM.belN (h : TabM B w T tN tO vN vO rN rO N O v5 x5 v6 x6) {w0 : World} (hb : Below B w0 w) (hg : w.grownBy w' vN.ownBlock) : Below B w0 w' := hb.grown hg h.bs fun k hk => (h.oN.lt k hk).1
theorem TabM.belO (h : TabM B w T tN tO vN vO rN rO N O v5 x5 v6 x6) {w0 : World} (hb : Below B w0 w) (hg : w.grownBy w' vO.ownBlock) : Below B w0 w' := hb.grown hg h.bs fun k hk => (h.oO.lt k hk).1
end
/-- a table, whole: two slices of rows under one pointer -/
def Tab (B : Nat) (w : World) (T : Nat) (N O : List (List Value)) : Prop := ∃ vN vO rN rO, B ≤ w.heap.size ∧ Blk w T [vN, vO] 83 ∧ w.ownsRow B 31 1 vN rN.length rN ∧ w.ownsRow B 31 1 vO rO.length rO ∧
  (vN.ownBlock = none ∨ vN.ownBlock ≠ vO.ownBlock) ∧ RowsV w 2 rN N ∧ RowsV w 2 rO O
theorem Tab.keep {B : Nat} {w w' : World} {T : Nat} {N O : List (List Value)} (h : Tab B w T N O) (hb : Below w.heap.size w w') : Tab B w' T N O := by
  obtain ⟨vN, vO, rN, rO, h1, h2, h3, h4, h5, h6, h7⟩ := h
  have hg : w.grownBy w' none := ⟨hb.os, hb.tape, hb.output, hb.size, fun k hk _ => hb.block k hk⟩
  exact ⟨vN, vO, rN, rO, Nat.le_trans h1 hb.size, h2.keep hb, h3.kept hg (by by_cases e : vN.ownBlock = none <;> simp [e]), h4.kept hg (by by_cases e : vO.ownBlock = none <;> simp [e]), h5,
    h6.same fun _ _ h => h.keep hb, h7.same fun _ _ h => h.keep hb⟩
theorem TabM.tab {B : Nat} {w : World} {T : Nat} {vN vO : Value} {rN rO : List Value} {N O : List (List Value)} {v5 v6 : Value} {x5 x6 : List Value} (h : TabM B w T vN vO vN vO rN rO N O v5 x5 v6 x6) : Tab B w T N O :=
  ⟨vN, vO, rN, rO, h.bs, h.blk, h.oN, h.oO, h.ne, h.rowsN, h.rowsO⟩
theorem Tab.more {B : Nat} {w w' : World} {T : Nat} {N O : List (List Value)} (h : Tab B w T N O) (hb : Below w.heap.size w w') {v5 v6 : Value} {x5 x6 : List Value} (h5 : RowV w' 2 v5 x5) (h6 : RowV w' 2 v6 x6) :
    ∃ vN vO rN rO, TabM B w' T vN vO vN vO rN rO N O v5 x5 v6 x6 := by
  obtain ⟨vN, vO, rN, rO, h1, h2, h3, h4, h5', h6', h7⟩ := h.keep hb
  exact ⟨vN, vO, rN, rO, h1, h2, h3, h4, h5', h6', h7, h5, h6⟩
theorem Tab.start {B : Nat} {w : World} {T : Nat} (h : Blk w T [.slice none 0 0, .slice none 0 0] 83) (hB : B ≤ w.heap.size) : Tab B w T [] [] :=
  ⟨_, _, [], [], hB, h, World.ownsRow_nil _ _ _ _, World.ownsRow_nil _ _ _ _, .inl rfl, ⟨rfl, fun i v xs h => by simp at h⟩, ⟨rfl, fun i v xs h => by simp at h⟩⟩
end Go.Proofs.Ythgkkaifdlkciaa

/- What the laws ask of a result that is a slice of numbers. -/
namespace Go.Proofs.Ythgkkaifdlkciaa
open Go.RowKit
set_option linter.unusedVariables false
set_option linter.unusedSimpArgs false

/-- v is a slice of the numbers xs, in memory from B on that is its own -/
def OwnI (w : World) (B : Nat) (v : Value) (xs : List Int) : Prop := w.ownsRow B 2 1 v xs.length (i64s xs)
/-- its form -/
theorem OwnI.form {w : World} {B : Nat} {v : Value} {xs : List Int} (h : OwnI w B v xs) : ∃ a c, v = .slice a xs.length c ∧ IntsAt w a xs := by
  rcases h.2 with ⟨rfl, h0⟩ | ⟨g, cap, cur, rfl, h1, hg, h2, h3, h4, h5⟩
  · exact ⟨none, 0, by rw [h0], fun i hi => by omega⟩
  · refine ⟨some ⟨g, 0, none⟩, cap, rfl, fun i hi => ⟨g, 0, rfl, ?_⟩⟩
    rw [Nat.zero_add]
    have := World.ownsRow.cellAt h i (by omega)
    rw [this, i64s_get hi]

def marks (k n : Nat) : List Int := (List.range n).map fun i => ((k + i : Nat) : Int)
theorem marks_length (k n : Nat) : (marks k n).length = n := by simp [marks]

/-- i numbers marked, from k on; the rest as it was -/
def mixM (k i : Nat) (xs : List Int) : List Int := marks k i ++ xs.drop i
theorem mixM_length (k i : Nat) (xs : List Int) (h : i ≤ xs.length) : (mixM k i xs).length = xs.length := by simp [mixM, marks_length]; omega
theorem mixM_succ (k i : Nat) (xs : List Int) (h : i < xs.length) : (i64s (mixM k i xs)).set i (.int .i64 ((k + i : Nat) : Int)) = i64s (mixM k (i + 1) xs) := by
  have e : marks k (i + 1) = marks k i ++ [((k + i : Nat) : Int)] := by simp [marks, List.range_succ]
  simp only [mixM, i64s, e, List.map_append]
  rw [List.set_append_right _ _ (by simp [marks_length]), List.append_assoc]
  congr 1
  rw [show i - ((marks k i).map (Value.int .i64)).length = 0 by simp [marks_length], List.drop_eq_getElem_cons h, List.map_cons, List.set_cons_zero]
  rfl
theorem mixM_all (k : Nat) (xs : List Int) : mixM k xs.length xs = marks k xs.length := by simp [mixM]
theorem marks_get {k n i : Nat} (h : i < n) : (marks k n)[i]?.getD 0 = ((k + i : Nat) : Int) := by simp [marks, h]

set_option maxHeartbeats 1000000 in
theorem heldI_any (B : Nat) (v : Value) (k n : Nat) (hx : n ≤ 1000000) (hk : k ≤ 1000000) (w : World) (h : OwnI w B v (marks k n)) :
    Calls Try.prog 15 #[v, .int .i64 (k : Int)] w (Ret (.int .i64 ((k + n : Nat) : Int)) w) := by
  obtain ⟨a, c, rfl, hI⟩ := h.form
  rw [marks_length]
  have HI := Lib.hid hI
  clear h hI
  go_enter Try.func15, Try.ntmps15
  go_wp2
  go_loopw [1, 5] (fun u i wr => ∃ j : Nat, j ≤ n ∧ i = .int .i64 j ∧ u = .int .i64 ((k + j : Nat) : Int) ∧ Below w.heap.size w wr) (fun _ i _ => n - (intOf i).toNat)
  case atStart => exact ⟨0, Nat.zero_le _, rfl, rfl, Below.refl _ _⟩
  case round =>
    obtain ⟨j, hj, rfl, rfl, hb⟩ := hrel
    by_cases hlt : j < n
    · obtain ⟨g, off, rfl, hc⟩ := HI.out j (by rw [marks_length]; exact hlt)
      rw [← hb.cell (p := ⟨g, off + j, none⟩) (World.block_lt_of_cell? w _ hc), marks_get hlt] at hc
      have i1 : (0 : Int) ≤ (j : Int) := by omega
      have i2 : (j : Int) < (n : Int) := by omega
      go_wp2
      go_roundw
      case rel => exact ⟨j + 1, by omega, by go_num, by go_num, hb⟩
      case measure => simp [intOf]; omega
    · have hj' : j = n := by omega
      subst hj'
      go_wp2
      go_ret
      exact ⟨rfl, hb⟩
end Go.Proofs.Ythgkkaifdlkciaa

/- Activities: no program in sight. -/
namespace Go.Proofs.Ythgkkaifdlkciaa
set_option linter.unusedVariables false
set_option linter.unusedSimpArgs false

/-! Bounds -/
end Go.Proofs.Ythgkkaifdlkciaa
