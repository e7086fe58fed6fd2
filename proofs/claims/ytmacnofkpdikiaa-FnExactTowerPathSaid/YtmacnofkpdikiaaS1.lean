/- What the laws do with slices of numbers and machines that come in: copies, sizes, comparisons. -/
import Derived.Test.YtmacnofkpdikiaaMB
import Derived.Test.YtmacnofkpdikiaaP1
import Derived.Test.YtmacnofkpdikiaaM
import Derived.Test.YtmacnofkpdikiaaY1
namespace Go.Proofs.Ytmacnofkpdikiaa
open Go.RowKit
set_option linter.unusedVariables false
set_option linter.unusedSimpArgs false

/-- 'make([]int64, n)' -/
theorem mkI (n : Nat) (hn : n ≤ 2000000) (u : World) : (Instr.makeSlice 39 (.int .i64 (n : Int)) (.int .i64 (n : Int))).run Try.prog u =
    .ok (.slice (some ⟨u.heap.size, 0, none⟩) n n) (u.alloc (.cells (madeCells #[.int .i64 0] n) 2)) := by
  obtain ⟨i0, hi, hz0, hz1, hz2⟩ := info_parts Try.info2
  have h := run_make (P := Try.prog) u 39 2 i0 (.int .i64 0) Try.underlying39 hi hz0 .i64 .i64 (n : Int) (n : Int) (by omega) (Int.le_refl _) (by rw [hz2]; omega) (by omega)
  simpa [hz1, Value.cells] using h
theorem madeI (n : Nat) : (madeCells #[Value.int .i64 0] n).toList = i64s (List.replicate n 0) := by
  simp only [madeCells, Array.toList_map, Array.toList_range, i64s]
  apply List.ext_getElem?
  intro i
  by_cases hi : i < n <;> simp [hi, Nat.mod_one]

/-- k numbers copied -/
def cpy (xs : List Int) (k : Nat) : List Int := xs.take k ++ List.replicate (xs.length - k) 0
theorem cpy_zero (xs : List Int) : cpy xs 0 = List.replicate xs.length 0 := by simp [cpy]
theorem cpy_all (xs : List Int) : cpy xs xs.length = xs := by simp [cpy]
theorem cpy_length (xs : List Int) (k : Nat) (h : k ≤ xs.length) : (cpy xs k).length = xs.length := by simp [cpy]; omega
theorem cpy_succ (xs : List Int) (k : Nat) (h : k < xs.length) : (i64s (cpy xs k)).set k (.int .i64 (xs[k]?.getD 0)) = i64s (cpy xs (k + 1)) := by
  have e : xs.take (k + 1) = xs.take k ++ [xs[k]] := by rw [List.take_succ_eq_append_getElem h]
  have hl : (xs.take k).length = k := by rw [List.length_take]; omega
  simp only [cpy, i64s, e, List.map_append]
  rw [List.set_append_right _ _ (by rw [List.length_map, hl]; omega), List.append_assoc]
  congr 1
  rw [show k - ((xs.take k).map (Value.int .i64)).length = 0 by rw [List.length_map, hl]; omega, show xs.length - k = (xs.length - (k + 1)) + 1 by omega, List.replicate_succ, List.map_cons, List.set_cons_zero, List.getElem?_eq_getElem h]
  rfl

set_option maxHeartbeats 1000000 in
theorem toInt64S_any (a : Option Addr) (xs : List Int) (c : Nat) (hx : xs.length ≤ 1100000) (w : World) (hI : IntsAt w a xs) :
    Calls Try.prog 68 #[.slice a xs.length c] w fun e w' => ∃ v, e = .returned v ∧ Below w.heap.size w w' ∧ OwnI w' w.heap.size v xs := by
  have HI := Lib.hid hI
  clear hI
  have hmk := mkI xs.length (by omega) w
  have hM0 := (Mm.start w).alloc (madeCells #[.int .i64 0] xs.length) 2
  rw [madeI, ← cpy_zero] at hM0
  go_enter Try.func68, Try.ntmps68
  go_wp2_with fail
  clear hmk
  go_loopw [4] (fun i wr => ∃ k : Nat, k ≤ xs.length ∧ i = .int .i64 k ∧ Mm w.heap.size w wr [(w.heap.size, i64s (cpy xs k), 2)] []) (fun i _ => xs.length - (intOf i).toNat)
  case atStart => exact ⟨0, Nat.zero_le _, rfl, hM0⟩
  case round =>
    clear hM0
    obtain ⟨k, hk, rfl, hM⟩ := hrel
    by_cases hlt : k < xs.length
    · obtain ⟨g, off, rfl, hc⟩ := HI.out k hlt
      rw [← hM.below.cell (p := ⟨g, off + k, none⟩) (World.block_lt_of_cell? w _ hc)] at hc
      have hB := hM.at 0 rfl
      have c1 := hB.cell' (i64s_get (xs := cpy xs k) (i := k) (by rw [cpy_length xs k hk]; exact hlt))
      have f1 := hB.free k
      have i1 : (0 : Int) ≤ (k : Int) := by omega
      have i2 : (k : Int) < (xs.length : Int) := by omega
      have hset := Lib.hid (hM.setCell 0 rfl k (.int .i64 (xs[k]?.getD 0)))
      rw [cpy_succ xs k hlt] at hset
      clear hM hB
      generalize xs[k]?.getD 0 = x at *
      generalize (cpy xs k)[k]?.getD 0 = y at *
      go_wp2_with fail
      go_roundw
      case rel => exact ⟨k + 1, by omega, by go_num, hset.out⟩
      case measure => simp [intOf]; omega
    · have hk' : k = xs.length := by omega
      subst hk'
      rw [cpy_all] at hM
      have hF := Lib.hid (hM.addOwn (List.mem_singleton.2 rfl) xs.length (by simp [i64s]) (by omega))
      clear hM
      go_wp2_with fail
      go_ret
      exact ⟨_, rfl, hF.out.below, by simpa [OwnI, i64s] using hF.out.own _ (List.mem_cons_self ..)⟩

theorem szInt64S_any (a : Option Addr) (n c : Nat) (left : Int) (h0 : 0 ≤ left) (h1 : left ≤ 1048576) (hn : n ≤ 9223372036854775807) (w : World) :
    Calls Try.prog 65 #[.slice a n c, .int .i64 left] w fun e w' => e = .returned (.int .i64 (if left < n then -1 else left - n)) ∧ w = w' := by
  go_enter Try.func65, Try.ntmps65
  have i1 : -9223372036854775808 ≤ left - n := by omega
  have i2 : left - n ≤ 9223372036854775807 := by omega
  by_cases h : left < n
  · have h' : left - (n : Int) < 0 := by omega
    go_wp2
    go_ret
    exact ⟨ret_int (by simp [h]), rfl⟩
  · have h' : ¬ left - (n : Int) < 0 := by omega
    go_wp2
    go_ret
    exact ⟨ret_int (by first | rfl | rw [if_neg (by omega)]), rfl⟩

set_option maxHeartbeats 1000000 in
theorem eqByteA3_same (x y z : Int) (w : World) :
    Calls Try.prog 131 #[.agg #[.int .u8 x, .int .u8 y, .int .u8 z], .agg #[.int .u8 x, .int .u8 y, .int .u8 z]] w (Ret (.bool true) w) := by
  go_enter Try.func131, Try.ntmps131
  go_wp2
  refine wp_loop_rounds 4 ?_
  rw [rounds_succ]
  go_wp2
  go_quiet (fail)
  go_wp2
  rw [rounds_succ]
  go_wp2
  go_quiet (fail)
  go_wp2
  rw [rounds_succ]
  go_wp2
  go_quiet (fail)
  go_wp2
  rw [rounds_succ]
  go_wp2
  go_ret
  refine ⟨rfl, ?_⟩
  have hb := ((Below.refl w.heap.size w).alloc (Nat.le_refl _) (.cells #[.int .u8 x, .int .u8 y, .int .u8 z] 35)).alloc (by simp) (.cells #[.int .u8 x, .int .u8 y, .int .u8 z] 35)
  first | exact hb.drew.drew.drew | exact below_dN hb _ | exact below_dN (below_dN hb _) _ | exact below_dN (below_dN (below_dN hb _) _) _ | trace_state
end Go.Proofs.Ytmacnofkpdikiaa
