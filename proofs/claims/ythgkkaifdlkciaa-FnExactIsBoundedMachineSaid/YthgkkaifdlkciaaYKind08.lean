import Derived.Test.YthgkkaifdlkciaaYKind07
import Derived.Test.YthgkkaifdlkciaaYKind02
import Derived.Maps.AppendAt
import Derived.Laws.AppendOwnNone
import Derived.Test.YthgkkaifdlkciaaYKind01
import Derived.Test.YthgkkaifdlkciaaYKind06
import Derived.Shelf.Bits.Mul64
import Derived.Laws.CopyOwn
import Derived.Test.YthgkkaifdlkciaaYKind05
import Derived.Test.YthgkkaifdlkciaaYKind03
import Derived.Lib.SliceRun
import Derived.RangeFuncBox
import Derived.RangeFuncLeaves
import Derived.RangeFuncNested
import Derived.Shelf.Abstract
import Derived.WalkKit
import Derived.OwnWalkIn
import Derived.TacticsInMore
import Derived.LoopNIn
import Derived.LoopIn
import Derived.Lib.AppendZerosOnto
/- The program's counts of cycles, step by step: no program in sight. -/
namespace Go.Proofs.Ythgkkaifdlkciaa
set_option linter.unusedVariables false
set_option linter.unusedSimpArgs false

section
variable (t : Tbl)
/-- where the first x letters lead r, outside F -/
def Tbl.rowO (F : List Nat) (r x : Nat) : List Nat := ((List.range x).map (t.nx r)).filter fun u => !F.contains u
/-- the greatest of P behind the first i states of F and the first x letters of the next one -/
def Tbl.pasU (F : List Nat) (P : Nat → Nat) (i x : Nat) : Nat := lmx ((((F.take i).flatMap fun r => t.rowO F r t.d) ++ t.rowO F (F[i]?.getD 0) x).map P)
/-- how many of the first x letters lead r into L -/
def Tbl.cntU (L : List Nat) (r x : Nat) : Nat := ((List.range x).filter fun y => L.contains (t.nx r y)).length
def Tbl.linU (L : List Nat) (i x : Nat) : Nat := ((L.take i).map fun r => t.cntU L r t.d).sum + t.cntU L (L[i]?.getD 0) x
end
section
variable {t : Tbl} {tv : Nat → Bool}
theorem Tbl.rowO_yes {F : List Nat} {r x : Nat} (h : F.contains (t.nx r x) = false) : t.rowO F r (x + 1) = t.rowO F r x ++ [t.nx r x] := by
  unfold Tbl.rowO
  rw [List.range_succ, List.map_append, List.filter_append]
  simp only [List.map_cons, List.map_nil]
  rw [List.filter_cons_of_pos (by simpa using h)]; rfl
theorem Tbl.rowO_no {F : List Nat} {r x : Nat} (h : F.contains (t.nx r x) = true) : t.rowO F r (x + 1) = t.rowO F r x := by
  unfold Tbl.rowO
  rw [List.range_succ, List.map_append, List.filter_append]
  simp only [List.map_cons, List.map_nil]
  rw [List.filter_cons_of_neg (by simpa using h)]; simp
theorem Tbl.pasU_start (F : List Nat) (P : Nat → Nat) : t.pasU F P 0 0 = 0 := by simp [Tbl.pasU, Tbl.rowO, lmx]
theorem Tbl.pasU_yes {F : List Nat} {P : Nat → Nat} {i x : Nat} (h : F.contains (t.nx (F[i]?.getD 0) x) = false) : t.pasU F P i (x + 1) = max (t.pasU F P i x) (P (t.nx (F[i]?.getD 0) x)) := by
  unfold Tbl.pasU
  rw [Tbl.rowO_yes h, ← List.append_assoc, List.map_append, List.map_singleton, lmx_snoc]
theorem Tbl.pasU_no {F : List Nat} {P : Nat → Nat} {i x : Nat} (h : F.contains (t.nx (F[i]?.getD 0) x) = true) : t.pasU F P i (x + 1) = t.pasU F P i x := by
  unfold Tbl.pasU
  rw [Tbl.rowO_no h]
theorem Tbl.pasU_next {F : List Nat} {P : Nat → Nat} {i : Nat} (h : i < F.length) : t.pasU F P i t.d = t.pasU F P (i + 1) 0 := by
  unfold Tbl.pasU
  have e : t.rowO F (F[i + 1]?.getD 0) 0 = [] := rfl
  rw [e, List.append_nil, List.take_succ_eq_append_getElem h, List.flatMap_append, List.flatMap_singleton, List.getElem?_eq_getElem h]; rfl
theorem Tbl.pasU_end (P : Nat → Nat) (q : Nat) : t.pasU (t.frm tv q) P (t.frm tv q).length 0 = lmx ((t.outs tv q).map P) := by
  unfold Tbl.pasU
  have e : ∀ r, t.rowO (t.frm tv q) r 0 = [] := fun _ => rfl
  rw [e, List.append_nil, List.take_length]
  congr 2
  unfold Tbl.outs Tbl.rowO
  rw [List.filter_flatMap]
theorem Tbl.cntU_succ (L : List Nat) (r x : Nat) : t.cntU L r (x + 1) = t.cntU L r x + if L.contains (t.nx r x) = true then 1 else 0 := by
  unfold Tbl.cntU
  rw [filter_range_succ, List.length_append]
  congr 1
  split <;> rfl
theorem Tbl.linU_start (L : List Nat) : t.linU L 0 0 = 0 := by simp [Tbl.linU, Tbl.cntU]
theorem Tbl.linU_succ (L : List Nat) (i x : Nat) : t.linU L i (x + 1) = t.linU L i x + if L.contains (t.nx (L[i]?.getD 0) x) = true then 1 else 0 := by
  unfold Tbl.linU
  rw [Tbl.cntU_succ]; omega
theorem Tbl.linU_next {L : List Nat} {i : Nat} (h : i < L.length) : t.linU L i t.d = t.linU L (i + 1) 0 := by
  unfold Tbl.linU
  have e : t.cntU L (L[i + 1]?.getD 0) 0 = 0 := rfl
  rw [e, List.take_succ_eq_append_getElem h, List.map_append, List.map_singleton, List.sum_append, List.getElem?_eq_getElem h]; simp
theorem Tbl.linU_end (q : Nat) : t.linU (t.cyL tv q) (t.cyL tv q).length 0 = t.lines tv q := by
  unfold Tbl.linU Tbl.lines
  have e : ∀ r, t.cntU (t.cyL tv q) r 0 = 0 := fun _ => rfl
  rw [e, List.take_length]; rfl
theorem Tbl.linU_le (L : List Nat) : ∀ (i x : Nat), t.linU L i x ≤ i * t.d + x := fun i x => by
  have hc : ∀ r x, t.cntU L r x ≤ x := fun r x => by
    have := List.length_filter_le (fun y => L.contains (t.nx r y)) (List.range x)
    rw [List.length_range] at this; exact this
  have hs : ∀ l : List Nat, (l.map fun r => t.cntU L r t.d).sum ≤ l.length * t.d := fun l => by
    induction l with
    | nil => simp
    | cons a l ih =>
      have := hc a t.d
      simp only [List.map_cons, List.sum_cons, List.length_cons, Nat.add_mul]; omega
  unfold Tbl.linU
  have h1 := hs (L.take i)
  have h2 := hc (L[i]?.getD 0) x
  have h3 : (L.take i).length * t.d ≤ i * t.d := Nat.mul_le_mul_right _ (by rw [List.length_take]; omega)
  omega
theorem Tbl.cyL_lt {q r : Nat} (h : r ∈ t.cyL tv q) : r < t.n := by
  unfold Tbl.cyL at h
  split at h
  · exact List.mem_range.1 (List.mem_filter.1 h).1
  · cases h
theorem Tbl.cyL_len (q : Nat) : (t.cyL tv q).length ≤ t.n := by
  unfold Tbl.cyL
  split
  · have := List.length_filter_le (fun r => t.rb q r && t.rb r q) (List.range t.n)
    rwa [List.length_range] at this
  · simp
theorem Tbl.frm_lt {q r : Nat} (hq : q < t.n) (h : r ∈ t.frm tv q) : r < t.n := by
  unfold Tbl.frm at h
  split at h
  · exact Tbl.cyL_lt h
  · rw [List.mem_singleton.1 h]; exact hq
theorem Tbl.cyL_pos {q : Nat} (hq : q < t.n) : (0 < (t.cyL tv q).length) ↔ t.cyB tv q = true := by
  cases hc : t.cyB tv q with
  | true =>
    refine ⟨fun _ => rfl, fun _ => List.length_pos_of_mem ((Tbl.cyL_mem hc).2 ⟨hq, (Tbl.cyB_iff.1 hc).2, (Tbl.cyB_iff.1 hc).2⟩)⟩
  | false =>
    simp [Tbl.cyL, hc]
end
end Go.Proofs.Ythgkkaifdlkciaa

/- 'out = append(out, row...)' in a function's own memory. -/
namespace Go.Proofs.Ythgkkaifdlkciaa
open Go.RowKit
set_option linter.unusedVariables false
set_option linter.unusedSimpArgs false
section
variable {B : Nat} {w0 w : World} {L : List (Nat × List Value × TypeId)} {G : List (Value × TypeId × List Value)}

end
end Go.Proofs.Ythgkkaifdlkciaa

/- Cycles of letters and returns, plain. -/
namespace Go.Proofs.Ythgkkaifdlkciaa
open Go.RowKit
set_option linter.unusedVariables false

/-- a letter, led so many times -/
def itX (m : Mch) (g : Wd) (x : Nat) : Nat → Nat
  | 0 => x
  | i + 1 => ledX m g (itX m g x i)
def repW (g : Wd) : Nat → Wd
  | 0 => []
  | k + 1 => repW g k ++ g

theorem repW_len (g : Wd) : ∀ k, (repW g k).length = k * g.length
  | 0 => by simp [repW]
  | k + 1 => by rw [repW, List.length_append, repW_len g k, Nat.add_mul, Nat.one_mul]
theorem repW_get (g : Wd) : ∀ (k i : Nat), i < k * g.length → (repW g k)[i]? = g[i % g.length]?
  | 0, i, h => by omega
  | k + 1, i, h => by
    have hl := repW_len g k
    rw [repW]
    by_cases c : i < k * g.length
    · rw [List.getElem?_append_left (by omega), repW_get g k i c]
    · rw [List.getElem?_append_right (by omega), hl]
      have e : i % g.length = i - k * g.length := by
        rw [Nat.add_mul, Nat.one_mul] at h
        have h2 : i = (i - k * g.length) + k * g.length := by omega
        rw [h2, Nat.add_mul_mod_self_right, Nat.mod_eq_of_lt (by omega)]
        omega
      rw [e]
section
variable {m : Mch} (hok : m.Ok) (hwf : m.Wf)
include hok hwf
omit hok hwf in
end
/-- the copies as far as they are made -/
def repP (g : Wd) (k n : Nat) : Wd := (repW g k).take n ++ List.replicate (k * g.length - n) 0
theorem repP_len (g : Wd) (k n : Nat) (h : n ≤ k * g.length) : (repP g k n).length = k * g.length := by
  simp [repP, repW_len]; omega
theorem repP_zero (g : Wd) (k : Nat) : repP g k 0 = List.replicate (k * g.length) 0 := by simp [repP]
theorem repP_all (g : Wd) (k : Nat) : repP g k (k * g.length) = repW g k := by
  simp only [repP, Nat.sub_self, List.replicate_zero, List.append_nil]
  rw [← repW_len g k, List.take_length]
theorem repW_take (g : Wd) (k : Nat) (hk : 1 ≤ k) : (repW g k).take g.length = g := by
  have h1 : g.length ≤ k * g.length := Nat.le_mul_of_pos_left _ hk
  apply List.ext_getElem?
  intro i
  rw [List.getElem?_take]
  split
  · rename_i h
    rw [repW_get g k i (by omega), Nat.mod_eq_of_lt h]
  · rename_i h
    rw [List.getElem?_eq_none (by omega)]
theorem repW_shift (g : Wd) (k j q : Nat) (h : j * g.length + q ≤ k * g.length) : ((repW g k).drop (j * g.length)).take q = (repW g k).take q := by
  apply List.ext_getElem?
  intro i
  rw [List.getElem?_take, List.getElem?_take, List.getElem?_drop]
  split
  · rw [repW_get g k _ (by omega), repW_get g k i (by omega), Nat.add_comm, Nat.add_mul_mod_self_right]
  · rfl
theorem repP_put (g : Wd) (k j q : Nat) (h : j * g.length + q ≤ k * g.length) :
    (repP g k (j * g.length)).take (j * g.length) ++ ((repW g k).take q ++ (repP g k (j * g.length)).drop (j * g.length + q)) = repP g k (j * g.length + q) := by
  have hl := repW_len g k
  have h1 : ((repW g k).take (j * g.length)).length = j * g.length := by rw [List.length_take]; omega
  simp only [repP]
  rw [List.take_append_of_le_length (by omega), List.take_take, Nat.min_self, List.drop_append, h1, List.drop_eq_nil_of_le (by omega), List.nil_append, List.drop_replicate,
    ← List.append_assoc, ← repW_shift g k j q h, ← List.take_add]
  congr 2
  omega
end Go.Proofs.Ythgkkaifdlkciaa

/- The search for an order, plain. -/
namespace Go.Proofs.Ythgkkaifdlkciaa
open Go.RowKit
set_option linter.unusedVariables false
set_option linter.unusedSimpArgs false

end Go.Proofs.Ythgkkaifdlkciaa

/- Greatest common divisors and least common multiples of both sides. -/
namespace Go.Proofs.Ythgkkaifdlkciaa
open Go.RowKit
set_option linter.unusedVariables false
set_option linter.unusedSimpArgs false

end Go.Proofs.Ythgkkaifdlkciaa

/- The reference's copy of a row. -/
namespace Go.Proofs.Ythgkkaifdlkciaa
open Go.RowKit
set_option linter.unusedVariables false
set_option linter.unusedSimpArgs false

end Go.Proofs.Ythgkkaifdlkciaa

/- Cycles of letters and their returns: the walks. -/
namespace Go.Proofs.Ythgkkaifdlkciaa
open Go.RowKit
set_option linter.unusedVariables false
set_option linter.unusedSimpArgs false

set_option maxHeartbeats 1000000 in
theorem mul64_any (x y : Nat) (hx : x < 1000000) (hy : y < 1000) (w : World) :
    Calls Try.prog 111 #[.int .u64 x, .int .u64 y] w (RetQ (.tuple #[.int .u64 0, .int .u64 (x * y : Nat)]) w) := by
  have hx' : x < 18446744073709551616 := by omega
  have hy' : y < 18446744073709551616 := by omega
  have hm : x * y < 1000000000 := by
    have := Nat.mul_le_mul (Nat.le_of_lt_succ (show x < 999999 + 1 from hx)) (Nat.le_of_lt_succ (show y < 999 + 1 from hy))
    omega
  have x1 : x % 4294967296 = x := by omega
  have y1 : y % 4294967296 = y := by omega
  have x2 : x / 4294967296 = 0 := by omega
  have y2 : y / 4294967296 = 0 := by omega
  have z2 : x * y / 4294967296 = 0 := by omega
  go_enter Try.func111, Try.ntmps111
  go_wp2_with fail
  simp only [Mul64.maskN x hx', Mul64.maskN y hy', Mul64.divN, Mul64.mulN, Mul64.addN, x1, y1, x2, y2, Nat.zero_mul, Nat.mul_zero, Mul64.wrapN (x * y) (by omega), Mul64.wrapN 0 (by omega), z2, Nat.add_zero, Nat.zero_div, Mul64.maskN 0 (by omega), Nat.zero_mod]
  go_ret2
  exact ⟨rfl, 0, rfl⟩

theorem mul_any (x y : Nat) (hx : x < 1000000) (hy : y < 1000) (w : World) :
    Calls Try.prog 101 #[.int .u64 x, .int .u64 y] w (RetQ (.tuple #[.int .u64 0, .int .u64 (x * y : Nat)]) w) := by
  have HM := Lib.hid (mul64_any x y hx hy w)
  go_enter Try.func101, Try.ntmps101
  go_wp2_with (refine HM.out.mono ?_; rintro e w' ⟨rfl, n, rfl⟩)
  go_ret2
  exact ⟨rfl, _, rfl⟩

theorem IntsAt.src {w w' : World} {a : Option Addr} {g : Wd} (h : IntsAt w a g) (hb : Below w.heap.size w w') (h0 : 0 < g.length) : ∃ ad, a = some ad ∧ ∀ (j : Nat) v, (i64s g)[j]? = some v → w'.cell? (ad.add j) = some v := by
  obtain ⟨b, o, rfl, -⟩ := h 0 h0
  refine ⟨_, rfl, fun j v hv => ?_⟩
  have hj : j < g.length := by
    have := (List.getElem?_eq_some_iff.1 hv).1
    simpa [i64s] using this
  obtain ⟨b', o', e, hc⟩ := h j hj
  injection e with e
  injection e with e1 e2
  subst e1 e2
  have := i64s_get (xs := g) (i := j) hj
  rw [this] at hv
  injection hv with hv
  subst hv
  rw [show (⟨b, o, none⟩ : Addr).add j = ⟨b, o + j, none⟩ by unfold Addr.add; split <;> simp_all]
  exact (hb.cell (World.block_lt_of_cell? w _ hc)).trans hc
theorem splice_rep (g : Wd) (k j q : Nat) (h : j * g.length + q ≤ k * g.length) : Go.splice (i64s (repP g k (j * g.length))) (j * g.length) (i64s ((repW g k).take q)) = i64s (repP g k (j * g.length + q)) := by
  have hq : min q (k * g.length) = q := by omega
  rw [← repP_put g k j q h]
  unfold Go.splice
  simp only [i64s, List.map_append, List.map_take, List.map_drop, List.length_take, List.length_map, repW_len, hq]

set_option maxRecDepth 100000 in
set_option maxHeartbeats 1000000 in
theorem repeat16_any (a : Option Addr) (g : Wd) (c k : Nat) (hl : g.length ≤ 1000) (hk1 : 1 ≤ k) (hk2 : k ≤ 16) (w : World) (hI : IntsAt w a g) :
    Calls Try.prog 74 #[.slice a g.length c, .int .i64 (k : Int)] w fun e w' => ∃ v, e = .returned v ∧ Below w.heap.size w w' ∧ OwnI w' w.heap.size v (repW g k) := by
  have HI := Lib.hid hI
  have hm1 : g.length * k ≤ 16000 := by
    have := Nat.mul_le_mul hl hk2
    omega
  have HM := Lib.hid (mul_any g.length k (by omega) (by omega) w)
  have hkl : g.length ≤ k * g.length := Nat.le_mul_of_pos_left _ hk1
  have e1 : IntKind.u64.wrap (g.length : Int) = (g.length : Int) := Mul64.wrapN _ (by omega)
  have e2 : IntKind.u64.wrap (k : Int) = (k : Int) := Mul64.wrapN _ (by omega)
  have i1 : (0 : Int) ≤ (k : Int) := by omega
  clear hI
  go_enter Try.func74, Try.ntmps74
  go_wp2_with fail
  refine HM.out.mono ?_
  rintro e w' ⟨rfl, n, rfl⟩
  clear HM e1 e2
  have hM0 := (Mm.start w).drewN n
  have hsz : (w.drewN n).heap.size = w.heap.size := rfl
  generalize w.drewN n = wn at *
  rw [Nat.mul_comm g.length k] at hm1 ⊢
  obtain ⟨t, ht⟩ : ∃ t, t = k * g.length := ⟨_, rfl⟩
  rw [← ht] at hm1 hkl ⊢
  have hM1 := hM0.alloc (madeCells #[.int .i64 0] t) 2
  have hmk := mkI t (by omega) wn
  rw [madeI, hsz] at hM1
  rw [hsz] at hmk
  have HT := Lib.hid ht
  have HM1 := Lib.hid hM1
  have e3 : IntKind.i64.wrap (t : Int) = (t : Int) := IntWalk.i64_in _ (by omega)
  have i2 : (t : Int) ≤ 9223372036854775807 := by omega
  have i3 : (0 : Int) ≤ (t : Int) := by omega
  clear ht hM0 hM1 hsz
  have HRZ := Lib.hid (repP_zero g k)
  have hM1 := HM1.out
  rw [← HT.out] at HRZ
  rw [← HRZ.out] at hM1
  have hg0 := (hM1.at 0 rfl)
  have HS0 := Lib.hid (splice_rep g k 0 g.length (by rw [← HT.out]; omega))
  rw [Nat.zero_mul, Nat.zero_add, repW_take g k hk1] at HS0
  have hg1 : (wn.alloc (.cells (madeCells #[.int .i64 0] t) 2)).heap[w.heap.size]? = some (.cells (i64s (repP g k 0)).toArray 2 (0, 0)) := hg0
  have HG1 := Lib.hid hg1
  have hsrc : 0 < (i64s g).length → ∃ ad, a = some ad ∧ ∀ (j : Nat) v, (i64s g)[j]? = some v → (wn.alloc (.cells (madeCells #[.int .i64 0] t) 2)).cell? (ad.add j) = some v := fun h => HI.out.src hM1.below (by simpa [i64s] using h)
  have HSRC := Lib.hid hsrc
  have hrl : (i64s (repP g k 0)).length = t := by rw [HT.out]; simpa [i64s] using repP_len g k 0 (by omega)
  have HRL := Lib.hid hrl
  have HLG : Hid ((i64s g).length = g.length) := by show _ = _; simp [i64s]
  have hb1 := hM1.below
  clear hM1 hg0 hg1 hsrc hrl
  go_wp2_with (go_loud (refine wpList_copy_splice rfl (.tmp 31) (.tmp 32) 31 31 rfl 2 Try.underlying31 (by kernel_rfl) _ _ _ _ _ _ rfl rfl w.heap.size 0 (i64s (repP g k 0)) 2 HG1.out (i64s g) (HLG.out.trans (Nat.min_eq_left hkl).symm) (fun h => ⟨rfl, HSRC.out h⟩) (by have h1 := HRL.out; have h2 := HLG.out; omega) (fun v hv => by obtain ⟨x, -, rfl⟩ := List.mem_map.1 hv; rfl) w.heap.size w hb1 (Nat.le_refl _) ?_; intro w2 HG2 hB2))
  rw [HLG.out]
  have HB : Hid (w2.heap[w.heap.size]? = some (.cells (i64s (repP g k (1 * g.length))).toArray 2 (0, 0))) := by
    have := HG2.out
    rwa [HS0.out, show g.length = 1 * g.length by omega] at this
  clear HG2 HS0 HSRC HRL HLG HG1 HRZ HM1 hb1
  go_loopw [8] (fun v wr => ∃ j : Nat, 1 ≤ j ∧ j ≤ k ∧ v = .int .i64 ((j * g.length : Nat) : Int) ∧ Below w.heap.size w wr ∧ Hid (wr.heap[w.heap.size]? = some (.cells (i64s (repP g k (j * g.length))).toArray 2 (0, 0)))) (fun v _ => t - (intOf v).toNat)
  case atStart => exact ⟨1, Nat.le_refl _, hk1, by rw [Nat.one_mul], hB2, HB⟩
  case round =>
    clear HB hB2
    obtain ⟨j, hj1, hjk, rfl, hb, HB⟩ := hrel
    have hjt : j * g.length ≤ t := by rw [HT.out]; exact Nat.mul_le_mul_right _ hjk
    by_cases hlt : j * g.length < t
    · have hq : j * g.length + min (k - j) j * g.length ≤ k * g.length := by
        rw [← Nat.add_mul]; exact Nat.mul_le_mul_right _ (by omega)
      have hs := splice_rep g k j (min (k - j) j * g.length) hq
      have hj2 : (j + min (k - j) j) * g.length = j * g.length + min (k - j) j * g.length := Nat.add_mul ..
      have hqe : min (k - j) j * g.length = min (t - j * g.length) (j * g.length) := by
        rw [HT.out, ← Nat.sub_mul]; exact (Nat.mul_min_mul_right ..).symm
      have hq3 : j + min (k - j) j ≤ k := by omega
      have HJ2 := Lib.hid (show 1 ≤ j + min (k - j) j ∧ j + min (k - j) j ≤ k from ⟨by omega, by omega⟩)
      have h0 : 0 < j * g.length := by
        rcases Nat.eq_zero_or_pos (j * g.length) with h | h
        · exfalso
          have hg0 : g.length = 0 := by
            rcases Nat.mul_eq_zero.1 h with h | h
            · omega
            · exact h
          rw [HT.out, hg0] at hlt; omega
        · exact h
      rw [← HT.out] at hq
      rw [← hj2] at hs
      have HJS := Lib.hid hj2
      obtain ⟨j', hj'⟩ : ∃ j', j' = j + min (k - j) j := ⟨_, rfl⟩
      rw [← hj'] at hs HJS HJ2
      clear hj2 hq3 hj'
      generalize min (k - j) j * g.length = q at *
      generalize j * g.length = n at *
      have HS := Lib.hid hs
      have hql : (i64s ((repW g k).take q)).length = q := by
        simp only [i64s, List.length_map, List.length_take, repW_len, ← HT.out]; omega
      have HQL := Lib.hid hql
      have hrl : (i64s (repP g k n)).length = t := by rw [HT.out]; simpa [i64s] using repP_len g k n (by rw [← HT.out]; omega)
      have HF : Hid (n + (i64s ((repW g k).take q)).length ≤ (i64s (repP g k n)).length) := by show _ ≤ _; rw [hql, hrl]; exact hq
      have hqn : q ≤ n := by rw [hqe]; exact Nat.min_le_right ..
      have htk : (repW g k).take q = (repP g k n).take q := by
        have : ((repW g k).take n).length = n := by rw [List.length_take, repW_len, ← HT.out]; omega
        rw [repP, List.take_append_of_le_length (by omega), List.take_take, Nat.min_eq_left hqn]
      have HSRC : Hid (∀ (i : Nat) v, (i64s ((repW g k).take q))[i]? = some v → wr.cell? ((⟨w.heap.size, 0, none⟩ : Addr).add i) = some v) := fun i v hv => by
        rw [show (⟨w.heap.size, 0, none⟩ : Addr).add i = ⟨w.heap.size, i, none⟩ by unfold Addr.add; split <;> simp_all]
        rw [Blk.cell (show Blk wr w.heap.size (i64s (repP g k n)) 2 from HB.out)]
        have hi := (List.getElem?_eq_some_iff.1 hv).1
        rw [hql] at hi
        rw [htk] at hv
        simp only [i64s, List.map_take, List.getElem?_take, if_pos hi] at hv ⊢
        exact hv
      have HQ := Lib.hid (hqe.trans (Nat.min_comm ..))
      have i4 : (0 : Int) ≤ (n : Int) := by omega
      have i5 : (n : Int) < (t : Int) := by omega
      have i6 : (n : Int) ≤ (t : Int) := by omega
      have HB0 := Lib.hid hb
      clear hs hql hrl htk hqe hb
      go_wp2_with fail
      go_region_law (refine step_copy_splice rfl (.tmp 41) (.tmp 44) 31 31 rfl 2 Try.underlying31 (by kernel_rfl) (if t = n then some ⟨w.heap.size, 0, none⟩ else some ⟨w.heap.size, n, none⟩) (some ⟨w.heap.size, 0, none⟩) (t - n) (t - n) n t (by first | (simp [Act.eval, Act.put]; done) | rfl) (by first | (simp [Act.eval, Act.put]; done) | rfl) w.heap.size n (i64s (repP g k n)) 2 HB.out (i64s ((repW g k).take q)) (HQL.out.trans HQ.out) (fun _ => ⟨if_neg (by omega), _, rfl, HSRC.out⟩) HF.out (fun v hv => by obtain ⟨x, -, rfl⟩ := List.mem_map.1 hv; rfl) w.heap.size w HB0.out.drew (Nat.le_refl _) ?_; intro w4 hg4 hb4)
      have hg5 := hg4.out
      rw [HS.out] at hg5
      have HG5 := Lib.hid hg5
      have e5 : IntKind.i64.wrap ((n : Int) + ((i64s ((repW g k).take q)).length : Int)) = ((j' * g.length : Nat) : Int) := by
        rw [HQL.out, IntWalk.i64_in _ (by omega), HJS.out]; omega
      rw [e5]
      clear hg4 hg5 e5
      go_wp2_with fail
      go_roundw
      case rel => exact ⟨j', HJ2.out.1, HJ2.out.2, rfl, HG5⟩
      case measure => have h5 := HJS.out; have h6 := HQ.out; simp [intOf]; omega
    · have hj' : j * g.length = k * g.length := by rw [← HT.out]; omega
      rw [hj'] at HB
      rw [repP_all] at HB
      have HM : Hid (Mm w.heap.size w wr [(w.heap.size, i64s (repW g k), 2)] []) := ⟨hb, hb.size, fun x hx => by rw [List.mem_singleton.1 hx]; exact ⟨Nat.le_refl _, HB.out⟩, List.pairwise_singleton .., fun _ h => (by cases h), fun _ h => (by cases h), List.Pairwise.nil⟩
      have hF := Lib.hid (HM.out.addOwn (List.mem_singleton.2 rfl) t (by simp [i64s, repW_len, HT.out]) (by omega))
      rw [hj', ← HT.out] at hlt ⊢
      clear HM HB hj'
      go_wp2_with fail
      go_ret
      exact ⟨_, rfl, hF.out.below, OwnI.of_row (hF.out.own _ (List.mem_cons_self ..))⟩
end Go.Proofs.Ythgkkaifdlkciaa

/- ReturnOf of the program. -/
namespace Go.Proofs.Ythgkkaifdlkciaa
open Go.RowKit
set_option linter.unusedVariables false
set_option linter.unusedSimpArgs false

end Go.Proofs.Ythgkkaifdlkciaa

/- The reference's turn: a machine, its inverse, its classes, its trivial states. -/
namespace Go.Proofs.Ythgkkaifdlkciaa
open Go.RowKit
set_option linter.unusedVariables false
set_option linter.unusedSimpArgs false

end Go.Proofs.Ythgkkaifdlkciaa

/- Cycles and returns of the reference. -/
namespace Go.Proofs.Ythgkkaifdlkciaa
open Go.RowKit
set_option linter.unusedVariables false
set_option linter.unusedSimpArgs false

end Go.Proofs.Ythgkkaifdlkciaa

/- Returns of the reference. -/
namespace Go.Proofs.Ythgkkaifdlkciaa
open Go.RowKit
set_option linter.unusedVariables false
set_option linter.unusedSimpArgs false

end Go.Proofs.Ythgkkaifdlkciaa

/- ReturnOf of the reference. -/
namespace Go.Proofs.Ythgkkaifdlkciaa
open Go.RowKit
set_option linter.unusedVariables false
set_option linter.unusedSimpArgs false

end Go.Proofs.Ythgkkaifdlkciaa

/- What the walks of the search for an order share. -/
namespace Go.Proofs.Ythgkkaifdlkciaa
open Go.RowKit
set_option linter.unusedVariables false
set_option linter.unusedSimpArgs false

section
variable {B : Nat} {w0 w : World} {L : List (Nat × List Value × TypeId)} {G : List (Value × TypeId × List Value)}
end

/-- one block more, if so -/
def ext (f : Bool) (x : Nat × List Value × TypeId) (L : List (Nat × List Value × TypeId)) : List (Nat × List Value × TypeId) := if f = true then x :: L else L
theorem ext_swap (f : Bool) (x y : Nat × List Value × TypeId) (R : List (Nat × List Value × TypeId)) : (y :: ext f x R).Perm (ext f x (y :: R)) := by
  cases f
  · exact .refl _
  · exact .swap ..
theorem ext_cong (f : Bool) (x : Nat × List Value × TypeId) {R R' : List (Nat × List Value × TypeId)} (h : R.Perm R') : (ext f x R).Perm (ext f x R') := by
  cases f
  · exact h
  · exact h.cons _
theorem ext_mem {f : Bool} {x y : Nat × List Value × TypeId} {L : List (Nat × List Value × TypeId)} (h : y ∈ L) : y ∈ ext f x L := by
  cases f
  · exact h
  · exact List.mem_cons_of_mem _ h
theorem AnyS.invA {P : Program} {ops : Array Oper} {Q : Exit → Act → World → Prop} {md : Region.Mode} {S : World → Prop} {L : List Nat} (a0 : Act) (Inv : Act → Array Bool → Act → World → Prop) (hS : ∀ l a w, Inv a0 l a w → S w)
    (h : ∀ l a w, Inv a0 l a w → (∀ n, leftN ops.size l ≤ n → AnyS P md ops Q S L n l a w) ∨
      (Region.ready md ops l ≠ [] ∧ ∀ i ∈ Region.ready md ops l, wpOp P ops Q i (fun a' w' => Inv a0 (l.setIfInBounds i true) a' w') a w))
    (n : Nat) (l : Array Bool) (w : World) (hi : Inv a0 l a0 w) (hn : leftN ops.size l ≤ n) : AnyS P md ops Q S L n l a0 w := AnyS.inv (Inv a0) hS h n l a0 w hi hn

theorem Mm.intsAt {B : Nat} {w0 w : World} {L : List (Nat × List Value × TypeId)} {G : List (Value × TypeId × List Value)} (h : Mm B w0 w L G) (i : Nat) {a : Option Addr} {n c : Nat} {xs : List Int} (hi : G[i]? = some (.slice a n c, 2, i64s xs)) : IntsAt w a xs := by
  have ho := h.own _ (mem_of_get hi)
  simp only at ho
  obtain ⟨a', c', e, hI⟩ := (OwnI.of_row ho).form
  have : a = a' := by injection e
  rw [this]; exact hI
theorem set_self (a : Array Value) (i : Nat) : a.setIfInBounds i (a.getD i undef) = a := by
  apply Array.ext_getElem?
  intro j
  rw [Array.getElem?_setIfInBounds]
  split
  · rename_i e; subst e
    split
    · rename_i h; simp [Array.getD, h]
    · rename_i h; rw [Array.getElem?_eq_none (by omega)]
  · rfl
end Go.Proofs.Ythgkkaifdlkciaa

/- slices.Index and slices.Contains over numbers; the program's search for an order in the memory. -/
namespace Go.Proofs.Ythgkkaifdlkciaa
open Go.RowKit
set_option linter.unusedVariables false
set_option linter.unusedSimpArgs false

/-- the place of a number in a row, or -1 -/
theorem dN_below (w : World) (n : Nat) : Below w.heap.size w (w.drewN n) := ⟨rfl, rfl, rfl, Nat.le_refl _, fun _ _ => rfl⟩
def idxI (xs : List Int) (y : Int) : Int := if y ∈ xs then (xs.idxOf y : Int) else -1
set_option maxHeartbeats 1000000 in
theorem slIndexI_any (a : Option Addr) (c : Nat) (xs : List Int) (y : Int) (hx : xs.length ≤ 1000000) (w : World) (ha : IntsAt w a xs) :
    Calls Try.prog 33 #[.slice a xs.length c, .int .i64 y] w (RetQ (.int .i64 (idxI xs y)) w) := by
  have HA := Lib.hid ha
  clear ha
  go_enter Try.func33, Try.ntmps33
  go_wp2_with fail
  go_loopw [5, 8] (fun _ i wr => ∃ j : Nat, j ≤ xs.length ∧ i = .int .i64 j ∧ Hid (∃ n, wr = w.drewN n) ∧ Hid (∀ q, q < j → xs[q]?.getD 0 ≠ y)) (fun _ i _ => xs.length - (intOf i).toNat)
  case atStart => exact ⟨0, Nat.zero_le _, rfl, ⟨0, rfl⟩, fun q hq => by omega⟩
  case round =>
    obtain ⟨j, hj, rfl, HW, HN⟩ := hrel
    by_cases hlt : j < xs.length
    · obtain ⟨g, off, rfl, hc⟩ := HA.out j hlt
      have hcell : ∀ a, wr.cell? a = w.cell? a := fun a => by obtain ⟨n, hn⟩ := HW.out; rw [hn]; rfl
      rw [← hcell] at hc
      clear hcell
      have i1 : (0 : Int) ≤ (j : Int) := by omega
      have i2 : (j : Int) < (xs.length : Int) := by omega
      obtain ⟨x, hx⟩ : ∃ x, x = xs[j]?.getD 0 := ⟨_, rfl⟩
      rw [← hx] at hc
      by_cases e : y = x
      · have HR : Hid (idxI xs y = (j : Int)) := by
          show _ = _
          unfold idxI
          rw [e, hx, List.getElem?_eq_getElem hlt, Option.getD_some]
          rw [if_pos (List.getElem_mem hlt)]
          have h1 := List.idxOf_lt_length_iff.2 (List.getElem_mem hlt)
          have h2 : xs[xs.idxOf xs[j]] = xs[j] := List.getElem_idxOf h1
          rcases Nat.lt_trichotomy (xs.idxOf xs[j]) j with c | c | c
          · exfalso
            have := HN.out _ c
            rw [List.getElem?_eq_getElem h1, Option.getD_some, h2] at this
            rw [List.getElem?_eq_getElem hlt, Option.getD_some] at hx
            exact this (by rw [e, hx])
          · rw [c]
          · exfalso
            have := List.not_of_lt_findIdx (p := (· == xs[j])) (xs := xs) (i := j) (by simpa [List.idxOf] using c)
            simp at this
        subst e
        clear hx
        go_wp2_with fail
        go_ret
        exact ⟨ret_int HR.out.symm, HW.out⟩
      · have HN2 : Hid (∀ q, q < j + 1 → xs[q]?.getD 0 ≠ y) := fun q hq => by
          by_cases h : q = j
          · subst h; rw [← hx]; exact Ne.symm e
          · exact HN.out q (by omega)
        have e1 : (y == x) = false := by simpa using e
        clear hx
        go_wp2_with fail
        go_roundw
        case rel => exact ⟨j + 1, by omega, by go_num, HW.out, HN2⟩
        case measure => simp [intOf] <;> omega
    · have HR : Hid (idxI xs y = -1) := if_neg fun h => by
        obtain ⟨q, hq, e⟩ := List.getElem_of_mem h
        exact HN.out q (by omega) (by rw [List.getElem?_eq_getElem hq, Option.getD_some, e])
      have hj' : ¬ (j : Int) < xs.length := by omega
      go_wp2_with fail
      go_ret
      exact ⟨ret_int HR.out.symm, HW.out⟩
theorem slContainsI_any (a : Option Addr) (c : Nat) (xs : List Int) (y : Int) (hx : xs.length ≤ 1000000) (w : World) (ha : IntsAt w a xs) :
    Calls Try.prog 102 #[.slice a xs.length c, .int .i64 y] w (RetQ (.bool (decide (y ∈ xs))) w) := by
  have HX := Lib.hid (slIndexI_any a c xs y hx w ha)
  go_enter Try.func102, Try.ntmps102
  by_cases h : y ∈ xs
  · rw [show idxI xs y = (xs.idxOf y : Int) from if_pos h] at HX
    have H := Lib.hid (decide_eq_true h)
    generalize xs.idxOf y = q at *
    have i1 : (0 : Int) ≤ (q : Int) := by omega
    clear h ha
    go_wp2_with (refine HX.out.mono ?_; rintro e w1 ⟨rfl, n, rfl⟩)
    go_ret
    exact ⟨ret_bool H.out.symm, n, rfl⟩
  · rw [show idxI xs y = -1 from if_neg h] at HX
    have H := Lib.hid (decide_eq_false h)
    clear h ha
    go_wp2_with (refine HX.out.mono ?_; rintro e w1 ⟨rfl, n, rfl⟩)
    go_ret
    exact ⟨ret_bool H.out.symm, n, rfl⟩
end Go.Proofs.Ythgkkaifdlkciaa

/- The machine of a word, plain: the states met, in their order. -/
namespace Go.Proofs.Ythgkkaifdlkciaa
open Go.RowKit
set_option linter.unusedVariables false
set_option linter.unusedSimpArgs false

/-- the machine of some states of a table -/
def gathM (L : Int) (t : Tbl) (S : List Nat) (num : Nat → Nat) : Mch := ⟨L, (S.length : Int), grid S.length t.d (fun i x => num (t.nx (S[i]?.getD 0) x)), grid S.length t.d (fun i x => t.ot (S[i]?.getD 0) x)⟩
end Go.Proofs.Ythgkkaifdlkciaa

/- (*table).gathered: the machine of some states of a table. -/
namespace Go.Proofs.Ythgkkaifdlkciaa
open Go.RowKit
set_option linter.unusedVariables false
set_option linter.unusedSimpArgs false

/-- the rows ahead of q and the first x numbers of row q are given -/
def gaP (d : Nat) (f : Nat → Nat → Nat) (q x : Nat) : List Int := (List.range 48).map fun j => if j % 3 < d ∧ (j / 3 < q ∨ j / 3 = q ∧ j % 3 < x) then (f (j / 3) (j % 3) : Int) else 0
theorem gaP_len (d : Nat) (f : Nat → Nat → Nat) (q x : Nat) : (gaP d f q x).length = 48 := by simp [gaP]
theorem gaP_set {d : Nat} {f : Nat → Nat → Nat} {q x : Nat} (hq : q < 16) (hx : x < d) (hd : d ≤ 3) : (gaP d f q x).set (q * 3 + x) (f q x : Int) = gaP d f q (x + 1) := by
  rw [gaP, map48_set _ (by omega), gaP]
  refine map48_congr fun i hi => ?_
  by_cases e : i = q * 3 + x
  · subst e
    rw [if_pos rfl, show (q * 3 + x) / 3 = q by omega, show (q * 3 + x) % 3 = x by omega, if_pos ⟨hx, .inr ⟨rfl, by omega⟩⟩]
  · rw [if_neg e]
    have h : (i % 3 < d ∧ (i / 3 < q ∨ i / 3 = q ∧ i % 3 < x)) ↔ (i % 3 < d ∧ (i / 3 < q ∨ i / 3 = q ∧ i % 3 < x + 1)) := by
      constructor
      · rintro ⟨a, b⟩; exact ⟨a, b.imp id fun ⟨c, d⟩ => ⟨c, by omega⟩⟩
      · rintro ⟨a, b⟩
        refine ⟨a, b.imp id fun ⟨c, d⟩ => ⟨c, ?_⟩⟩
        omega
    by_cases c : i % 3 < d ∧ (i / 3 < q ∨ i / 3 = q ∧ i % 3 < x)
    · rw [if_pos c, if_pos (h.1 c)]
    · rw [if_neg c, if_neg fun k => c (h.2 k)]
theorem gaP_row (d : Nat) (f : Nat → Nat → Nat) (q : Nat) : gaP d f q d = gaP d f (q + 1) 0 := by
  rw [gaP, gaP]
  refine map48_congr fun i hi => ?_
  have h : (i % 3 < d ∧ (i / 3 < q ∨ i / 3 = q ∧ i % 3 < d)) ↔ (i % 3 < d ∧ (i / 3 < q + 1 ∨ i / 3 = q + 1 ∧ i % 3 < 0)) := by
    constructor
    · rintro ⟨a, b | b⟩
      · exact ⟨a, .inl (by omega)⟩
      · exact ⟨a, .inl (by omega)⟩
    · rintro ⟨a, b | b⟩
      · refine ⟨a, ?_⟩
        by_cases e : i / 3 = q
        · exact .inr ⟨e, a⟩
        · exact .inl (by omega)
      · omega
  by_cases c : i % 3 < d ∧ (i / 3 < q ∨ i / 3 = q ∧ i % 3 < d)
  · rw [if_pos c, if_pos (h.1 c)]
  · rw [if_neg c, if_neg fun k => c (h.2 k)]
theorem gaP_all (n d : Nat) (f : Nat → Nat → Nat) : gaP d f n 0 = grid n d f := by
  rw [gaP, grid]
  refine map48_congr fun i hi => ?_
  by_cases c : i / 3 < n ∧ i % 3 < d
  · rw [if_pos c, if_pos ⟨c.2, .inl c.1⟩]
  · rw [if_neg c, if_neg]
    rintro ⟨a, b | b⟩
    · exact c ⟨b, a⟩
    · omega
theorem gaP_zero (d : Nat) (f : Nat → Nat → Nat) : gaP d f 0 0 = List.replicate 48 0 := by
  have h : gaP d f 0 0 = (List.range 48).map fun _ => (0 : Int) := map48_congr fun i hi => if_neg (by omega)
  rw [h]; rfl
theorem gaP_bound {d : Nat} {f : Nat → Nat → Nat} {q x : Nat} (hf : ∀ i y, (i < q ∨ i = q ∧ y < x) → y < d → f i y ≤ 255) (i : Nat) : 0 ≤ (gaP d f q x)[i]?.getD 0 ∧ (gaP d f q x)[i]?.getD 0 ≤ 255 := by
  by_cases h : i < 48
  · simp only [gaP, List.getElem?_map, List.getElem?_range h, Option.map_some, Option.getD_some]
    split
    · rename_i hc
      have := hf _ _ hc.2 hc.1
      omega
    · omega
  · rw [List.getElem?_eq_none (by rw [gaP_len]; omega)]
    simp only [Option.getD_none]; omega
/-- a machine while it is filled -/
def paM (L S : Int) (d : Nat) (f g : Nat → Nat → Nat) (q x y : Nat) : Mch := ⟨L, S, gaP d f q x, gaP d g q y⟩
theorem paM_wf {L S : Int} {d : Nat} {f g : Nat → Nat → Nat} {q x y : Nat} (hL : -9223372036854775808 ≤ L ∧ L ≤ 9223372036854775807) (hS : -9223372036854775808 ≤ S ∧ S ≤ 9223372036854775807)
    (hf : ∀ i z, (i < q ∨ i = q ∧ z < x) → z < d → f i z ≤ 255) (hg : ∀ i z, (i < q ∨ i = q ∧ z < y) → z < d → g i z ≤ 255) : (paM L S d f g q x y).Wf :=
  ⟨gaP_len _ _ _ _, gaP_len _ _ _ _, gaP_bound hf, gaP_bound hg, hL, hS⟩
theorem paM_setN {L S : Int} {d : Nat} {f g : Nat → Nat → Nat} {q x y : Nat} (hq : q < 16) (hx : x < d) (hd : d ≤ 3) : (paM L S d f g q x y).cells.set (2 + q * 3 + x) (.int .u8 (f q x : Int)) = (paM L S d f g q (x + 1) y).cells := by
  rw [Nat.add_assoc, paM, cells_setN _ _ _ _ _ (by rw [gaP_len]; omega), gaP_set hq hx hd]; rfl
theorem paM_setO {L S : Int} {d : Nat} {f g : Nat → Nat → Nat} {q x y : Nat} (hq : q < 16) (hx : y < d) (hd : d ≤ 3) : (paM L S d f g q x y).cells.set (50 + q * 3 + y) (.int .u8 (g q y : Int)) = (paM L S d f g q x (y + 1)).cells := by
  rw [Nat.add_assoc, paM, cells_setO _ _ _ _ _ (gaP_len _ _ _ _), gaP_set hq hx hd]; rfl
theorem paM_row (L S : Int) (d : Nat) (f g : Nat → Nat → Nat) (q : Nat) : paM L S d f g q d d = paM L S d f g (q + 1) 0 0 := by rw [paM, gaP_row, gaP_row]; rfl
theorem paM_all (L S : Int) (n d : Nat) (f g : Nat → Nat → Nat) : paM L S d f g n 0 0 = ⟨L, S, grid n d f, grid n d g⟩ := by rw [paM, gaP_all, gaP_all]
theorem paM_start (L S : Int) (d : Nat) (f g : Nat → Nat → Nat) : ((Try.zeroCells28.setIfInBounds 0 (.int .i64 L)).setIfInBounds 1 (.int .i64 S)) = (paM L S d f g 0 0 0).cells.toArray := by
  apply Array.toList_inj.1
  rw [zero98, paM, gaP_zero, gaP_zero]; rfl
theorem gathM_get {L : Int} {t : Tbl} {S : List Nat} {num : Nat → Nat} : gathM L t S num = paM L (S.length : Int) t.d (fun i x => num (t.nx (S[i]?.getD 0) x)) (fun i x => t.ot (S[i]?.getD 0) x) S.length 0 0 := by
  rw [paM_all]; rfl
set_option maxRecDepth 100000 in
set_option maxHeartbeats 4000000 in
theorem gathered_any (t : Tbl) (hw : t.Wf) (hn : t.n ≤ 1000) (hd : t.d ≤ 3) (T : Nat) (L : Int) (hL : -9223372036854775808 ≤ L ∧ L ≤ 9223372036854775807) (S : List Nat) (h16 : S.length ≤ 16) (hS : ∀ i, i < S.length → S[i]?.getD 0 < t.n) (num : Nat → Nat)
    (hnum : ∀ i x, i < S.length → x < t.d → num (t.nx (S[i]?.getD 0) x) ≤ 255) (hot : ∀ i x, i < S.length → x < t.d → t.ot (S[i]?.getD 0) x ≤ 255)
    (k : Nat) (hent : Enters k) (cap : Array Value) (a : Option Addr) (c : Nat) (w : World) (hT : TabG w T t) (hI : IntsAt w a (natsI S))
    (hf : ∀ W, Below w.heap.size w W → ∀ i x, i < S.length → x < t.d → Calls Try.prog k (#[.int .i64 (t.nx (S[i]?.getD 0) x : Int)] ++ cap) W (RetQ (.int .i64 (num (t.nx (S[i]?.getD 0) x) : Int)) W)) :
    Calls Try.prog 73 #[.pointer (some ⟨T, 0, none⟩), .int .i64 L, .slice a S.length c, .func (.func k) #[] cap] w (Ret (.agg (gathM L t S num).cells.toArray) w) := by
  have hent' : ∀ args w, Sem.run Try.prog (callFunc k args) w = .ok (.enter k args) w := hent
  obtain ⟨gN, cN, gO, cO, t1, t2, t3, t4⟩ := id hT
  have HT1 := Lib.hid t1
  have HT2 := Lib.hid t2
  have HT3 := Lib.hid t3
  have HT4 := Lib.hid t4
  have HF := Lib.hid hf
  have HI := Lib.hid hI
  have HNUM := Lib.hid hnum
  have HOT := Lib.hid hot
  have HSL := Lib.hid hS
  have HGM : Hid (gathM L t S num = paM L (S.length : Int) t.d (fun (i x : Nat) => num (t.nx (S[i]?.getD 0) x)) (fun (i x : Nat) => t.ot (S[i]?.getD 0) x) S.length 0 0) := gathM_get
  generalize hfN : (fun (i x : Nat) => num (t.nx (S[i]?.getD 0) x)) = fN at *
  generalize hfO : (fun (i x : Nat) => t.ot (S[i]?.getD 0) x) = fO at *
  have HFN : Hid (∀ i x, num (t.nx (S[i]?.getD 0) x) = fN i x) := fun i x => by rw [← hfN]
  have HFO : Hid (∀ i x, t.ot (S[i]?.getD 0) x = fO i x) := fun i x => by rw [← hfO]
  have hpw : ∀ q x y, (∀ i z, (i < q ∨ i = q ∧ z < x) → i < S.length) → (∀ i z, (i < q ∨ i = q ∧ z < y) → i < S.length) → (paM L (S.length : Int) t.d fN fO q x y).Wf := fun q x y h1 h2 =>
    paM_wf hL (by omega) (fun i z hc hz => by rw [← HFN.out]; exact HNUM.out i z (h1 i z hc) hz) (fun i z hc hz => by rw [← HFO.out]; exact HOT.out i z (h2 i z hc) hz)
  have HPW := Lib.hid hpw
  have hw0 := hpw 0 0 0 (fun i z h => by omega) (fun i z h => by omega)
  have HIF := Lib.hid (mach_infoT hw0)
  have H1 := Lib.hid (mach_ones (paM L (S.length : Int) t.d fN fO 0 0 0))
  have HST := Lib.hid (paM_start L (S.length : Int) t.d fN fO)
  have HMX := Lib.hid (show Try.prog.follows .mixedOrders = true by kernel_rfl)
  have hlen := Mch.cells_length hw0
  have hM0 := ((Mm.start w).alloc Try.zeroCells28 28).alloc Try.zeroCells28 28
  rw [World.size_alloc] at hM0
  have ht := (hM0.at 0 rfl).there 0 (paM L (S.length : Int) t.d fN fO 0 0 0).cells.length (by simp only; rw [zero_len, hlen]; omega)
  have hM1 := hM0.setAll 0 rfl (vs := (paM L (S.length : Int) t.d fN fO 0 0 0).cells) (by rw [zero_len, hlen])
  simp only [List.set_cons_zero] at hM1
  have HM1 := Lib.hid hM1
  clear hent hT hI hf hnum hot hS t1 t2 t3 t4 hfN hfO hpw hw0 hM0 hM1 hlen
  go_enter Try.func73, Try.ntmps73
  go_wp2_with ((with_reducible refine st_row ?_ 28 (.tmp 9) (.tmp 17) ?_ (w.heap.size + 1) 0 (paM L (S.length : Int) t.d fN fO 0 0 0).cells ?_ ?_ ht HIF.out H1.out ?_); exact rfl; exact rfl; exact rfl; (rw [← HST.out]; exact rfl))
  clear ht
  go_loopw [20] (fun i wr => ∃ q : Nat, q ≤ S.length ∧ i = .int .i64 q ∧ Mm w.heap.size w wr [(w.heap.size + 1, (paM L (S.length : Int) t.d fN fO q 0 0).cells, 28), (w.heap.size, Try.zeroCells28.toList, 28)] []) (fun i _ => S.length - (intOf i).toNat)
  case atStart => exact ⟨0, Nat.zero_le _, rfl, HM1.out⟩
  case round =>
    clear HM1 HIF H1 HST
    obtain ⟨q, hq, rfl, hM⟩ := hrel
    by_cases hlt : q < S.length
    · have i1 : (0 : Int) ≤ (q : Int) := by omega
      have i2 : (q : Int) < 16 := by omega
      have i3 : (q : Int) < (S.length : Int) := by omega
      have hsl := HSL.out q hlt
      obtain ⟨bs, os, rfl, cs⟩ := HI.out q (by simpa [natsI] using hlt)
      have cs := (hM.below.cell (World.block_lt_of_cell? _ _ cs)).trans cs
      have e1 : (natsI S)[q]?.getD 0 = ((S[q]?.getD 0 : Nat) : Int) := by simp [natsI, List.getElem?_map, List.getElem?_eq_getElem hlt]
      rw [e1] at cs
      have HFC : Hid (∀ W, Below w.heap.size w W → ∀ x, x < t.d → Calls Try.prog k (#[.int .i64 (t.nx (S[q]?.getD 0) x : Int)] ++ cap) W (RetQ (.int .i64 (fN q x : Int)) W)) := fun W hW x hx => by
        have := HF.out W hW q x hlt hx
        rwa [HFN.out] at this
      have HOE : Hid (∀ x, t.ot (S[q]?.getD 0) x = fO q x) := fun x => HFO.out q x
      have HNB : Hid (∀ x, x < t.d → fN q x ≤ 255) := fun x hx => by rw [← HFN.out]; exact HNUM.out q x hlt hx
      have HOB : Hid (∀ x, x < t.d → fO q x ≤ 255) := fun x hx => by rw [← HFO.out]; exact HOT.out q x hlt hx
      generalize S[q]?.getD 0 = r at *
      obtain ⟨g1, c1, d1, d2⟩ := HT3.out r hsl
      obtain ⟨g2, c2, d3, d4⟩ := HT4.out r hsl
      have ct := (hM.below.cell (World.block_lt_of_cell? _ _ HT1.out)).trans HT1.out
      have cn := (hM.below.cell (World.block_lt_of_cell? _ _ d1)).trans d1
      have HD2 := Lib.hid d2
      have HSM : Hid (∀ W, Below w.heap.size w W → W.cell? ⟨T, 1, none⟩ = some (.slice (some ⟨gO, 0, none⟩) t.n cO) ∧ W.cell? ⟨gO, r, none⟩ = some (.slice (some ⟨g2, 0, none⟩) t.d c2)) := fun W hW =>
        ⟨(hW.cell (World.block_lt_of_cell? _ _ HT2.out)).trans HT2.out, (hW.cell (World.block_lt_of_cell? _ _ d3)).trans d3⟩
      have HSO : Hid (∀ W, Below w.heap.size w W → ∀ x, x < t.d → W.cell? ⟨g2, x, none⟩ = some (.int .i64 (fO q x : Int))) := fun W hW x hx => by
        have := d4 x hx
        rw [HOE.out] at this
        exact (hW.cell (World.block_lt_of_cell? _ _ this)).trans this
      have r1 : (0 : Int) ≤ (r : Int) := by omega
      have r2 : (r : Int) < (t.n : Int) := by omega
      clear d1 d2 d3 d4 e1
      go_wp2_with fail
      clear cs ct cn
      obtain ⟨wo, rfl⟩ : ∃ wo : World, wo = wr := ⟨_, rfl⟩
      go_loopw [33] (fun i wr => ∃ x : Nat, x ≤ t.d ∧ i = .int .i64 x ∧ Mm w.heap.size w wr [(w.heap.size + 1, (paM L (S.length : Int) t.d fN fO q x x).cells, 28), (w.heap.size, Try.zeroCells28.toList, 28)] []) (fun i _ => t.d - (intOf i).toNat)
      case atStart => exact ⟨0, Nat.zero_le _, rfl, hM⟩
      case round =>
        clear hM
        obtain ⟨x, hx, rfl, hM⟩ := hrel
        by_cases hxl : x < t.d
        · have j1 : (0 : Int) ≤ (x : Int) := by omega
          have j2 : (x : Int) < 3 := by omega
          have j7 : (x : Int) < (t.d : Int) := by omega
          have cx := (hM.below.cell (World.block_lt_of_cell? _ _ (HD2.out x hxl))).trans (HD2.out x hxl)
          have hw1 := HPW.out q x x (fun i z h => by omega) (fun i z h => by omega)
          have hw2 := HPW.out q (x + 1) x (fun i z h => by omega) (fun i z h => by omega)
          have HM := Lib.hid hM
          have HCL := Lib.hid (HFC.out (wr.drew) hM.below.drew x hxl)
          have HNX := Lib.hid (HNB.out x hxl)
          have HOX := Lib.hid (HOB.out x hxl)
          have HSX : Hid (∀ W, Below w.heap.size w W → W.cell? ⟨g2, x, none⟩ = some (.int .i64 (fO q x : Int))) := fun W hW => HSO.out W hW x hxl
          have HN2 : Hid (∀ W, Mm w.heap.size w W [(w.heap.size + 1, (paM L (S.length : Int) t.d fN fO q x x).cells, 28), (w.heap.size, Try.zeroCells28.toList, 28)] [] →
              W.cell? ⟨w.heap.size + 1, 2 + q * 3 + x, none⟩ = some (.int .u8 ((paM L (S.length : Int) t.d fN fO q x x).n q x)) ∧ W.frozen? ⟨w.heap.size + 1, 2 + q * 3 + x, none⟩ = false ∧
              Mm w.heap.size w (W.setCell ⟨w.heap.size + 1, 2 + q * 3 + x, none⟩ (.int .u8 (fN q x : Int))) [(w.heap.size + 1, (paM L (S.length : Int) t.d fN fO q (x + 1) x).cells, 28), (w.heap.size, Try.zeroCells28.toList, 28)] []) := fun W h => by
            have d1 := (h.mach 0 rfl).nn hw1 (q := q) (x := x) (by omega) (by omega)
            have f1 := (h.at 0 rfl).free (2 + q * 3 + x)
            have h2 := h.setCell 0 rfl (2 + q * 3 + x) (.int .u8 (fN q x : Int))
            rw [paM_setN (by omega) hxl hd] at h2
            simp only [List.set_cons_zero] at h2
            exact ⟨by simpa using d1, f1, h2⟩
          have HO2 : Hid (∀ W, Mm w.heap.size w W [(w.heap.size + 1, (paM L (S.length : Int) t.d fN fO q (x + 1) x).cells, 28), (w.heap.size, Try.zeroCells28.toList, 28)] [] →
              W.cell? ⟨w.heap.size + 1, 50 + q * 3 + x, none⟩ = some (.int .u8 ((paM L (S.length : Int) t.d fN fO q (x + 1) x).o q x)) ∧ W.frozen? ⟨w.heap.size + 1, 50 + q * 3 + x, none⟩ = false ∧
              Mm w.heap.size w (W.setCell ⟨w.heap.size + 1, 50 + q * 3 + x, none⟩ (.int .u8 (fO q x : Int))) [(w.heap.size + 1, (paM L (S.length : Int) t.d fN fO q (x + 1) (x + 1)).cells, 28), (w.heap.size, Try.zeroCells28.toList, 28)] []) := fun W h => by
            have d1 := (h.mach 0 rfl).oo hw2 (q := q) (x := x) (by omega) (by omega)
            have f1 := (h.at 0 rfl).free (50 + q * 3 + x)
            have h2 := h.setCell 0 rfl (50 + q * 3 + x) (.int .u8 (fO q x : Int))
            rw [paM_setO (by omega) hxl hd] at h2
            simp only [List.set_cons_zero] at h2
            exact ⟨by simpa using d1, f1, h2⟩
          clear hM hw1 hw2
          go_wp2_with fail
          clear cx
          have hMd := HM.out.drew
          obtain ⟨Wd, hWd⟩ : ∃ W, W = wr.drew := ⟨_, rfl⟩
          refine region_S (fun W => (W.cell? ⟨T, 1, none⟩ = some (.slice (some ⟨gO, 0, none⟩) t.n cO) ∧ W.cell? ⟨gO, r, none⟩ = some (.slice (some ⟨g2, 0, none⟩) t.d c2)) ∧ W.cell? ⟨g2, x, none⟩ = some (.int .i64 (fO q x : Int))) [] 27 rfl HMX.out ⟨HSM.out _ hMd.below, HSX.out _ hMd.below⟩ (fun hU => ?_)
          rw [← hWd] at hU hMd HCL ⊢
          clear hWd
          generalize t.nx r x = nr at *
          have u1 : IntKind.u8.wrap (fN q x : Int) = (fN q x : Int) := IntWalk.u8_in _ ⟨by omega, by have := HNX.out; omega⟩
          have u2 : IntKind.u8.wrap (fO q x : Int) = (fO q x : Int) := IntWalk.u8_in _ ⟨by omega, by have := HOX.out; omega⟩
          generalize fN q x = nv at *
          generalize fO q x = ov at *
          (refine AnyS.take (i := 0) rfl (by kernel_rfl) (by kernel_rfl) (by kernel_rfl) (by rfl) (fun _ _ _ h => h) (by rfl) (by intro w; go_simp; with_reducible rfl) hU (fun hU => ?_); (try simp only [Act.put, List.setIfInBounds_toArray, List.set_cons_zero, List.set_cons_succ]); refine AnyS.take (i := 1) rfl (by kernel_rfl) (by kernel_rfl) (by kernel_rfl) (by rfl) (fun _ _ _ h => h) (by rfl) (by intro w; go_simp; with_reducible rfl) hU (fun hU => ?_); (try simp only [Act.put, List.setIfInBounds_toArray, List.set_cons_zero, List.set_cons_succ]); refine AnyS.take (i := 2) rfl (by kernel_rfl) (by kernel_rfl) (by kernel_rfl) (by rfl) (fun _ _ _ h => h) (by rfl) (by intro w; go_simp; with_reducible rfl) hU (fun hU => ?_); (try simp only [Act.put, List.setIfInBounds_toArray, List.set_cons_zero, List.set_cons_succ]); refine AnyS.take (i := 3) rfl (by kernel_rfl) (by kernel_rfl) (by kernel_rfl) (by rfl) (fun _ _ _ h => h) (by rfl) (by intro w; go_simp; with_reducible rfl) hU (fun hU => ?_); (try simp only [Act.put, List.setIfInBounds_toArray, List.set_cons_zero, List.set_cons_succ]); refine AnyS.take (i := 4) rfl (by kernel_rfl) (by kernel_rfl) (by kernel_rfl) (by rfl) (fun _ _ _ h => h) (by rfl) (by intro w; go_simp; with_reducible rfl) hU (fun hU => ?_); (try simp only [Act.put, List.setIfInBounds_toArray, List.set_cons_zero, List.set_cons_succ]); refine AnyS.take (i := 5) rfl (by kernel_rfl) (by kernel_rfl) (by kernel_rfl) (by rfl) (fun _ _ _ h => h) (by rfl) (by intro w; go_simp; with_reducible rfl) hU (fun hU => ?_); (try simp only [Act.put, List.setIfInBounds_toArray, List.set_cons_zero, List.set_cons_succ]); refine AnyS.take (i := 8) rfl (by kernel_rfl) (by kernel_rfl) (by kernel_rfl) (by rfl) (fun _ _ _ h => h) (by rfl) (by intro w; go_simp; with_reducible rfl) hU (fun hU => ?_); (try simp only [Act.put, List.setIfInBounds_toArray, List.set_cons_zero, List.set_cons_succ]); refine AnyS.take (i := 9) rfl (by kernel_rfl) (by kernel_rfl) (by kernel_rfl) (by rfl) (fun _ _ _ h => h) (by rfl) (by intro w; go_simp; with_reducible rfl) hU (fun hU => ?_); (try simp only [Act.put, List.setIfInBounds_toArray, List.set_cons_zero, List.set_cons_succ]); refine AnyS.take (i := 10) rfl (by kernel_rfl) (by kernel_rfl) (by kernel_rfl) (by rfl) (fun _ _ _ h => h) (by rfl) (by intro w; go_simp; with_reducible rfl) hU (fun hU => ?_); (try simp only [Act.put, List.setIfInBounds_toArray, List.set_cons_zero, List.set_cons_succ]))
          (refine AnyS.takeS (i := 11) rfl (by kernel_rfl) (by kernel_rfl) (by kernel_rfl) (by rfl) (by kernel_rfl) (by kernel_rfl) (fun _ _ _ h => h) (by rfl) (by intro W hSw; have h1 := hSw.1.1; clear hSw; go_simp; with_reducible rfl) hU (fun hU => ?_); (try simp only [Act.put, List.setIfInBounds_toArray, List.set_cons_zero, List.set_cons_succ]))
          (refine AnyS.take (i := 12) rfl (by kernel_rfl) (by kernel_rfl) (by kernel_rfl) (by rfl) (fun _ _ _ h => h) (by rfl) (by intro w; go_simp; with_reducible rfl) hU (fun hU => ?_); (try simp only [Act.put, List.setIfInBounds_toArray, List.set_cons_zero, List.set_cons_succ]); refine AnyS.take (i := 13) rfl (by kernel_rfl) (by kernel_rfl) (by kernel_rfl) (by rfl) (fun _ _ _ h => h) (by rfl) (by intro w; go_simp; with_reducible rfl) hU (fun hU => ?_); (try simp only [Act.put, List.setIfInBounds_toArray, List.set_cons_zero, List.set_cons_succ]))
          (refine AnyS.takeS (i := 14) rfl (by kernel_rfl) (by kernel_rfl) (by kernel_rfl) (by rfl) (by kernel_rfl) (by kernel_rfl) (fun _ _ _ h => h) (by rfl) (by intro W hSw; have h1 := hSw.1.2; clear hSw; go_simp; with_reducible rfl) hU (fun hU => ?_); (try simp only [Act.put, List.setIfInBounds_toArray, List.set_cons_zero, List.set_cons_succ]))
          (refine AnyS.take (i := 15) rfl (by kernel_rfl) (by kernel_rfl) (by kernel_rfl) (by rfl) (fun _ _ _ h => h) (by rfl) (by intro w; go_simp; with_reducible rfl) hU (fun hU => ?_); (try simp only [Act.put, List.setIfInBounds_toArray, List.set_cons_zero, List.set_cons_succ]); refine AnyS.take (i := 16) rfl (by kernel_rfl) (by kernel_rfl) (by kernel_rfl) (by rfl) (fun _ _ _ h => h) (by rfl) (by intro w; go_simp; with_reducible rfl) hU (fun hU => ?_); (try simp only [Act.put, List.setIfInBounds_toArray, List.set_cons_zero, List.set_cons_succ]))
          (refine AnyS.takeS (i := 17) rfl (by kernel_rfl) (by kernel_rfl) (by kernel_rfl) (by rfl) (by kernel_rfl) (by kernel_rfl) (fun _ _ _ h => h) (by rfl) (by intro W hSw; have h1 := hSw.2; clear hSw; go_simp; with_reducible rfl) hU (fun hU => ?_); (try simp only [Act.put, List.setIfInBounds_toArray, List.set_cons_zero, List.set_cons_succ]))
          (refine AnyS.take (i := 18) rfl (by kernel_rfl) (by kernel_rfl) (by kernel_rfl) (by rfl) (fun _ _ _ h => h) (by rfl) (by intro w; go_simp; with_reducible rfl) hU (fun hU => ?_); (try simp only [Act.put, List.setIfInBounds_toArray, List.set_cons_zero, List.set_cons_succ]); refine AnyS.take (i := 19) rfl (by kernel_rfl) (by kernel_rfl) (by kernel_rfl) (by rfl) (fun _ _ _ h => h) (by rfl) (by intro w; go_simp; with_reducible rfl) hU (fun hU => ?_); (try simp only [Act.put, List.setIfInBounds_toArray, List.set_cons_zero, List.set_cons_succ]); refine AnyS.take (i := 20) rfl (by kernel_rfl) (by kernel_rfl) (by kernel_rfl) (by rfl) (fun _ _ _ h => h) (by rfl) (by intro w; go_simp; with_reducible rfl) hU (fun hU => ?_); (try simp only [Act.put, List.setIfInBounds_toArray, List.set_cons_zero, List.set_cons_succ]); refine AnyS.take (i := 23) rfl (by kernel_rfl) (by kernel_rfl) (by kernel_rfl) (by rfl) (fun _ _ _ h => h) (by rfl) (by intro w; go_simp; with_reducible rfl) hU (fun hU => ?_); (try simp only [Act.put, List.setIfInBounds_toArray, List.set_cons_zero, List.set_cons_succ]); refine AnyS.take (i := 24) rfl (by kernel_rfl) (by kernel_rfl) (by kernel_rfl) (by rfl) (fun _ _ _ h => h) (by rfl) (by intro w; go_simp; with_reducible rfl) hU (fun hU => ?_); (try simp only [Act.put, List.setIfInBounds_toArray, List.set_cons_zero, List.set_cons_succ]))
          (refine AnyS.branch (rs := [6]) (by kernel_rfl) (List.cons_ne_nil _ _) ?_; refine AllS.cons rfl ?_ AllS.nil; intro K hK)
          go_simp
          refine HCL.out.mono ?_
          rintro e w4 ⟨rfl, a4, rfl⟩
          have hM4 := hMd.drewN a4
          refine hK.out _ _ (.inl ⟨HSM.out _ hM4.below, HSX.out _ hM4.below⟩) (fun hU => ?_)
          clear hK K hMd HCL
          (try simp only [Act.put, List.setIfInBounds_toArray, List.set_cons_zero, List.set_cons_succ])
          (refine AnyS.take (i := 7) rfl (by kernel_rfl) (by kernel_rfl) (by kernel_rfl) (by rfl) (fun _ _ _ h => h) (by rfl) (by intro w; go_simp; with_reducible rfl) hU (fun hU => ?_); (try simp only [Act.put, List.setIfInBounds_toArray, List.set_cons_zero, List.set_cons_succ]); refine AnyS.take (i := 21) rfl (by kernel_rfl) (by kernel_rfl) (by kernel_rfl) (by rfl) (fun _ _ _ h => h) (by rfl) (by intro w; go_simp; with_reducible rfl) hU (fun hU => ?_); (try simp only [Act.put, List.setIfInBounds_toArray, List.set_cons_zero, List.set_cons_succ]))
          obtain ⟨d1, f1, hM5⟩ := HN2.out _ hM4
          (refine AnyS.branch (rs := [22]) (by kernel_rfl) (List.cons_ne_nil _ _) ?_; refine AllS.cons rfl ?_ AllS.nil; intro K hK)
          go_simp
          refine hK.out _ _ (.inl ⟨HSM.out _ hM5.below, HSX.out _ hM5.below⟩) (fun hU => ?_)
          clear hK K d1 f1 hM4
          (try simp only [Act.put, List.setIfInBounds_toArray, List.set_cons_zero, List.set_cons_succ])
          (refine AnyS.take (i := 25) rfl (by kernel_rfl) (by kernel_rfl) (by kernel_rfl) (by rfl) (fun _ _ _ h => h) (by rfl) (by intro w; go_simp; with_reducible rfl) hU (fun hU => ?_); (try simp only [Act.put, List.setIfInBounds_toArray, List.set_cons_zero, List.set_cons_succ]))
          obtain ⟨d2, f2, hM6⟩ := HO2.out _ hM5
          (refine AnyS.branch (rs := [26]) (by kernel_rfl) (List.cons_ne_nil _ _) ?_; refine AllS.cons rfl ?_ AllS.nil; intro K hK)
          go_simp
          refine hK.out _ _ (.inl ⟨HSM.out _ hM6.below, HSX.out _ hM6.below⟩) (fun hU => ?_)
          clear hK K d2 f2 hM5
          (try simp only [Act.put, List.setIfInBounds_toArray, List.set_cons_zero, List.set_cons_succ])
          refine AnyS.done (by kernel_rfl) ?_ _
          clear hU
          have HM6 := Lib.hid hM6
          clear hM6
          go_wp2_with fail
          go_roundw
          case rel => exact ⟨x + 1, by omega, by go_num, HM6.out⟩
          case measure => simp [intOf] <;> omega
        · have hx' : x = t.d := by omega
          subst hx'
          rw [paM_row] at hM
          go_wp2_with fail
          go_roundw
          case rel => exact ⟨q + 1, by omega, by go_num, hM⟩
          case measure => simp [intOf] <;> omega
    · have hq' : q = S.length := by omega
      subst hq'
      rw [← HGM.out] at hM
      have hw1 : (gathM L t S num).Wf := by rw [HGM.out]; exact HPW.out _ _ _ (fun i z h => by omega) (fun i z h => by omega)
      have hm1 := hM.mach 0 rfl
      have ht := (hM.at 1 rfl).there 0 (gathM L t S num).cells.length (by simp only; rw [zero_len, Mch.cells_length hw1]; omega)
      have HI2 := Lib.hid (mach_infoT hw1)
      have H2 := Lib.hid (mach_ones (gathM L t S num))
      have hM2 := hM.setAll 1 rfl (vs := (gathM L t S num).cells) (by rw [zero_len, Mch.cells_length hw1])
      have HB := Lib.hid (hM2.at 1 rfl)
      have HM2 := Lib.hid hM2
      have HI5 : Hid ((Try.prog.info? 28).map (·.size) = some (gathM L t S num).cells.toArray.size) := HI2.out.trans (by rw [List.size_toArray])
      clear hM2
      go_wp2_with (first | ((with_reducible refine st_row ?_ 28 (.tmp 8) (.tmp 65) ?_ w.heap.size 0 (gathM L t S num).cells ?_ ?_ ht HI2.out H2.out ?_); exact rfl; exact rfl; exact rfl; exact rfl) | ((with_reducible refine ld_mach ?_ (.tmp 9) ?_ (w.heap.size + 1) 0 ?_ (gathM L t S num) hm1 hw1 ?_); exact rfl; exact rfl; exact rfl))
      exact bodyPost_ret (v := .agg (gathM L t S num).cells.toArray) (results_cell_row Try.results73 _ _ w.heap.size 28 (gathM L t S num).cells.toArray (0, 0) (.struct _) rfl HB.out Try.underlying28 rfl HI5.out) rfl ⟨rfl, HM2.out.below⟩
end Go.Proofs.Ythgkkaifdlkciaa

/- All words of so many numbers; slices.Clone; groupWords of the program. -/
namespace Go.Proofs.Ythgkkaifdlkciaa
open Go.RowKit
set_option linter.unusedVariables false
set_option linter.unusedSimpArgs false

end Go.Proofs.Ythgkkaifdlkciaa

/- slices.Backward's iterator; inverseOf of the program. -/
namespace Go.Proofs.Ythgkkaifdlkciaa
open Go.RowKit
set_option linter.unusedVariables false
set_option linter.unusedSimpArgs false
attribute [local go_sem] Oper.semAt_some

end Go.Proofs.Ythgkkaifdlkciaa

/- slices.Grow of nothing, slices.Concat, areEqual of the program. -/
namespace Go.Proofs.Ythgkkaifdlkciaa
open Go.RowKit
set_option linter.unusedVariables false
set_option linter.unusedSimpArgs false

end Go.Proofs.Ythgkkaifdlkciaa

/- The generators of the reference. -/
namespace Go.Proofs.Ythgkkaifdlkciaa
open Go.RowKit
set_option linter.unusedVariables false
set_option linter.unusedSimpArgs false

def z16a : List Value := [.int .i64 0, .int .i64 0, .int .i64 0, .int .i64 0, .int .i64 0, .int .i64 0, .int .i64 0, .int .i64 0, .int .i64 0, .int .i64 0, .int .i64 0, .int .i64 0, .int .i64 0, .int .i64 0, .int .i64 0, .int .i64 0]
def z16b : List Value := [.bool false, .bool false, .bool false, .bool false, .bool false, .bool false, .bool false, .bool false, .bool false, .bool false, .bool false, .bool false, .bool false, .bool false, .bool false, .bool false]
theorem info65 : (Try.prog.info? 61).map (·.size) = some 16 := by kernel_rfl
theorem bls_one (f : Nat → Bool) : ∀ v ∈ bls f, v.oneCell' = true := fun v hv => by simp only [bls, List.mem_map] at hv; obtain ⟨z, _, rfl⟩ := hv; rfl
theorem bls_len (f : Nat → Bool) : (bls f).length = 16 := by simp [bls]

end Go.Proofs.Ythgkkaifdlkciaa

/- The generators of the program; GeneratorsOf of both sides. -/
namespace Go.Proofs.Ythgkkaifdlkciaa
open Go.RowKit
set_option linter.unusedVariables false
set_option linter.unusedSimpArgs false

end Go.Proofs.Ythgkkaifdlkciaa
