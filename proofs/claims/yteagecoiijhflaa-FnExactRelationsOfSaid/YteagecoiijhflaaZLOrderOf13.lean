import Derived.Test.YteagecoiijhflaaZLOrderOf12
import Derived.Test.YteagecoiijhflaaZLOrderOf02
import Derived.Shelf.Bits.Mul64
import Derived.Laws.CopyOwn
import Derived.Test.YteagecoiijhflaaZLOrderOf07
/- Cycles of letters and their returns: the walks. -/
namespace Go.Proofs.Yteagecoiijhflaa
open Go.RowKit
set_option linter.unusedVariables false
set_option linter.unusedSimpArgs false

set_option maxHeartbeats 1000000 in
theorem mul64_any (x y : Nat) (hx : x < 1000000) (hy : y < 1000) (w : World) :
    Calls Try.prog 152 #[.int .u64 x, .int .u64 y] w (RetQ (.tuple #[.int .u64 0, .int .u64 (x * y : Nat)]) w) := by
  have hx' : x < 18446744073709551616 := by omega
  have hy' : y < 18446744073709551616 := by omega
  have hm : x * y < 1000000000 := by
    have := Nat.mul_le_mul (Nat.le_of_lt_succ (show x < 999999 + 1 from hx)) (Nat.le_of_lt_succ (show y < 999 + 1 from hy))
    omega
  have x1 : x % 4294967296 = x := by omega
  have y1 : y % 4294967296 = y := by omega
  have x2 : x / 4294967296 = 0 := by omega
  have y2 : y / 4294967296 = 0 := by omega
  have z2 : x * y / 4294967296 = 0 := by omega
  go_enter Try.func152, Try.ntmps152
  go_wp2_with fail
  simp only [Mul64.maskN x hx', Mul64.maskN y hy', Mul64.divN, Mul64.mulN, Mul64.addN, x1, y1, x2, y2, Nat.zero_mul, Nat.mul_zero, Mul64.wrapN (x * y) (by omega), Mul64.wrapN 0 (by omega), z2, Nat.add_zero, Nat.zero_div, Mul64.maskN 0 (by omega), Nat.zero_mod]
  go_ret2
  exact ⟨rfl, 0, rfl⟩

theorem mul_any (x y : Nat) (hx : x < 1000000) (hy : y < 1000) (w : World) :
    Calls Try.prog 129 #[.int .u64 x, .int .u64 y] w (RetQ (.tuple #[.int .u64 0, .int .u64 (x * y : Nat)]) w) := by
  have HM := Lib.hid (mul64_any x y hx hy w)
  go_enter Try.func129, Try.ntmps129
  go_wp2_with (refine HM.out.mono ?_; rintro e w' ⟨rfl, n, rfl⟩)
  go_ret2
  exact ⟨rfl, _, rfl⟩

def slLn : Value → Nat
  | .slice _ n _ => n
  | _ => 0
def cycV (m : Mch) (g : Wd) (x i : Nat) : List Value := (List.range i).map fun j => .int .i64 (itX m g x j : Int)
theorem cycV_len (m : Mch) (g : Wd) (x i : Nat) : (cycV m g x i).length = i := by simp [cycV]
theorem cycV_snoc (m : Mch) (g : Wd) (x i : Nat) : cycV m g x (i + 1) = cycV m g x i ++ [.int .i64 (itX m g x i : Int)] := by simp [cycV, List.range_succ]
theorem cycV_get (m : Mch) (g : Wd) (x : Nat) {i n : Nat} (h : i < n) : (cycV m g x n)[i]? = some (.int .i64 (itX m g x i : Int)) := by
  simp [cycV, List.getElem?_map, List.getElem?_range h]

set_option maxHeartbeats 1000000 in
theorem cycle_any (G : Nat) (m : Mch) (hwf : m.Wf) (hok : m.Ok) (a : Option Addr) (g : Wd) (c : Nat) (hg : GW m g) (hl : g.length ≤ 1000) (x : Nat) (hx : x < m.l) (w : World) (hG : GrpR w G m) (hI : IntsAt w a g) :
    Calls Try.prog 95 #[.pointer (some ⟨G, 0, none⟩), .slice a g.length c, .int .i64 (x : Int)] w fun e w' => ∃ b c', e = .returned (.slice b (cycN m g x) c') ∧ Below w.heap.size w w' := by
  obtain ⟨i0, hi, hz0, hz1, hz2⟩ := info_parts Try.info2
  have HG := Lib.hid hG
  have HI := Lib.hid hI
  have HGW := Lib.hid hg
  have HN := Lib.hid (cycN_le m g x)
  have HIT := Lib.hid (itX_cyc hok hwf hg hx)
  have hM0 := (Mm.start w).newOwn #[.int .i64 (x : Int)] 2 1 rfl (by omega)
  clear hG hI hg
  go_enter Try.func95, Try.ntmps95
  go_wp2_with fail
  go_loopw [7] (fun v wr => ∃ j : Nat, Hid (j + 1 ≤ cycN m g x) ∧ Mm w.heap.size w wr [] [(v, 2, cycV m g x (j + 1))]) (fun v _ => 4 - slLn v)
  case atStart => exact ⟨0, HN.out.1, hM0⟩
  case round =>
    clear hM0
    obtain ⟨j, HJ, hM⟩ := hrel
    have hO := hM.own _ (List.mem_cons_self ..)
    simp only at hO
    have hj : j ≤ 2 := by have := HJ.out; have := HN.out.2; omega
    have hcap0 := own_cap hO
    obtain ⟨gv, cv, rfl, -, -, hcl⟩ := own_form hO (by rw [cycV_len]; omega)
    have hcap : j + 1 ≤ cv := by have := hcap0 _ _ _ rfl; rw [cycV_len] at this; exact this
    have c1 := hcl j _ (cycV_get m g x (Nat.lt_succ_self j))
    have hy := itX_lt hok hwf HGW.out hx j
    have HC := Lib.hid (at_any G m hwf hok a g c HGW.out hl (itX m g x j) hy wr (HG.out.keep hM.below) (HI.out.keep hM.below))
    rw [show ledX m g (itX m g x j) = itX m g x (j + 1) from rfl] at HC
    have HS := Lib.hid (cycV_snoc m g x (j + 1))
    have HE : Hid (itX m g x (j + 1) = x → j + 1 = cycN m g x) := fun e => by
      have h1 := HJ.out
      by_cases c : j + 1 < cycN m g x
      · exact absurd e (itX_ne (by omega) c)
      · omega
    have HE2 : Hid (itX m g x (j + 1) ≠ x → j + 2 ≤ cycN m g x) := fun e => by
      have h1 := HJ.out
      by_cases c : j + 1 = cycN m g x
      · rw [c] at e; exact absurd HIT.out e
      · omega
    have hln : (cycV m g x (j + 1)).length = j + 1 := cycV_len ..
    have i1 : (0 : Int) ≤ (j : Int) := by omega
    have e1 : IntKind.i64.wrap (((j + 1 : Nat) : Int) - 1) = (j : Int) := by rw [IntWalk.i64_in _ (by omega)]; omega
    rw [hln]
    rw [hln] at hM
    clear hO hcl hy hcap0
    generalize itX m g x (j + 1) = y at *
    generalize itX m g x j = z at *
    go_wp2_with fail
    refine HC.out.mono ?_
    rintro e w1 ⟨v, rfl, hb1, -⟩
    have hM1 := hM.call hb1
    clear hM HC c1
    by_cases e : y = x
    · have h1 := HE.out e
      have hb := hM1.below
      subst e
      clear hM1 HE HE2
      go_wp2_with fail
      go_ret
      rw [← h1]
      exact ⟨_, _, rfl, hb⟩
    · have h1 := Lib.hid (HE2.out e)
      have e2 : ((y : Int) == (x : Int)) = false := by simp; omega
      clear HE HE2 e
      go_wp2_with (at_builtin; refine Mm.append rfl (.tmp 28) (.tmp 30) 26 rfl hM1 0 rfl Try.underlying26 hi hz0 hz1 hz2 rfl rfl rfl rfl (by omega) (by omega) ?_)
      intro g' cap' w3 hM3
      have HM3 : Hid (Mm w.heap.size w w3 [] [(.slice (some ⟨g', 0, none⟩) (j + 1 + 1) cap', 2, cycV m g x (j + 1 + 1))]) := by
        rw [HS.out]; show Mm _ _ _ _ _; simpa [cycV_len] using hM3
      clear hM1 hM3
      go_wp2_with fail
      go_roundw
      case rel => exact ⟨j + 1, h1.out, HM3.out⟩
      case measure => simp [slLn] <;> omega

theorem IntsAt.src {w w' : World} {a : Option Addr} {g : Wd} (h : IntsAt w a g) (hb : Below w.heap.size w w') (h0 : 0 < g.length) : ∃ ad, a = some ad ∧ ∀ (j : Nat) v, (i64s g)[j]? = some v → w'.cell? (ad.add j) = some v := by
  obtain ⟨b, o, rfl, -⟩ := h 0 h0
  refine ⟨_, rfl, fun j v hv => ?_⟩
  have hj : j < g.length := by
    have := (List.getElem?_eq_some_iff.1 hv).1
    simpa [i64s] using this
  obtain ⟨b', o', e, hc⟩ := h j hj
  injection e with e
  injection e with e1 e2
  subst e1 e2
  have := i64s_get (xs := g) (i := j) hj
  rw [this] at hv
  injection hv with hv
  subst hv
  rw [show (⟨b, o, none⟩ : Addr).add j = ⟨b, o + j, none⟩ by unfold Addr.add; split <;> simp_all]
  exact (hb.cell (World.block_lt_of_cell? w _ hc)).trans hc
theorem splice_rep (g : Wd) (k j q : Nat) (h : j * g.length + q ≤ k * g.length) : Go.splice (i64s (repP g k (j * g.length))) (j * g.length) (i64s ((repW g k).take q)) = i64s (repP g k (j * g.length + q)) := by
  have hq : min q (k * g.length) = q := by omega
  rw [← repP_put g k j q h]
  unfold Go.splice
  simp only [i64s, List.map_append, List.map_take, List.map_drop, List.length_take, List.length_map, repW_len, hq]

set_option maxRecDepth 100000 in
set_option maxHeartbeats 1000000 in
theorem repeat_any (a : Option Addr) (g : Wd) (c k : Nat) (hl : g.length ≤ 1000) (hk1 : 1 ≤ k) (hk2 : k ≤ 3) (w : World) (hI : IntsAt w a g) :
    Calls Try.prog 97 #[.slice a g.length c, .int .i64 (k : Int)] w fun e w' => ∃ v, e = .returned v ∧ Below w.heap.size w w' ∧ OwnI w' w.heap.size v (repW g k) := by
  have HI := Lib.hid hI
  have hm1 : g.length * k ≤ 3000 := by
    have := Nat.mul_le_mul hl hk2
    omega
  have HM := Lib.hid (mul_any g.length k (by omega) (by omega) w)
  have hkl : g.length ≤ k * g.length := Nat.le_mul_of_pos_left _ hk1
  have e1 : IntKind.u64.wrap (g.length : Int) = (g.length : Int) := Mul64.wrapN _ (by omega)
  have e2 : IntKind.u64.wrap (k : Int) = (k : Int) := Mul64.wrapN _ (by omega)
  have i1 : (0 : Int) ≤ (k : Int) := by omega
  clear hI
  go_enter Try.func97, Try.ntmps97
  go_wp2_with fail
  refine HM.out.mono ?_
  rintro e w' ⟨rfl, n, rfl⟩
  clear HM e1 e2
  have hM0 := (Mm.start w).drewN n
  have hsz : (w.drewN n).heap.size = w.heap.size := rfl
  generalize w.drewN n = wn at *
  rw [Nat.mul_comm g.length k] at hm1 ⊢
  obtain ⟨t, ht⟩ : ∃ t, t = k * g.length := ⟨_, rfl⟩
  rw [← ht] at hm1 hkl ⊢
  have hM1 := hM0.alloc (madeCells #[.int .i64 0] t) 2
  have hmk := mkI t (by omega) wn
  rw [madeI, hsz] at hM1
  rw [hsz] at hmk
  have HT := Lib.hid ht
  have HM1 := Lib.hid hM1
  have e3 : IntKind.i64.wrap (t : Int) = (t : Int) := IntWalk.i64_in _ (by omega)
  have i2 : (t : Int) ≤ 9223372036854775807 := by omega
  have i3 : (0 : Int) ≤ (t : Int) := by omega
  clear ht hM0 hM1 hsz
  have HRZ := Lib.hid (repP_zero g k)
  have hM1 := HM1.out
  rw [← HT.out] at HRZ
  rw [← HRZ.out] at hM1
  have hg0 := (hM1.at 0 rfl)
  have HS0 := Lib.hid (splice_rep g k 0 g.length (by rw [← HT.out]; omega))
  rw [Nat.zero_mul, Nat.zero_add, repW_take g k hk1] at HS0
  have hg1 : (wn.alloc (.cells (madeCells #[.int .i64 0] t) 2)).heap[w.heap.size]? = some (.cells (i64s (repP g k 0)).toArray 2 (0, 0)) := hg0
  have HG1 := Lib.hid hg1
  have hsrc : 0 < (i64s g).length → ∃ ad, a = some ad ∧ ∀ (j : Nat) v, (i64s g)[j]? = some v → (wn.alloc (.cells (madeCells #[.int .i64 0] t) 2)).cell? (ad.add j) = some v := fun h => HI.out.src hM1.below (by simpa [i64s] using h)
  have HSRC := Lib.hid hsrc
  have hrl : (i64s (repP g k 0)).length = t := by rw [HT.out]; simpa [i64s] using repP_len g k 0 (by omega)
  have HRL := Lib.hid hrl
  have HLG : Hid ((i64s g).length = g.length) := by show _ = _; simp [i64s]
  have hb1 := hM1.below
  clear hM1 hg0 hg1 hsrc hrl
  go_wp2_with (go_loud (refine wpList_copy_splice rfl (.tmp 31) (.tmp 32) 26 26 rfl 2 Try.underlying26 (by kernel_rfl) _ _ _ _ _ _ rfl rfl w.heap.size 0 (i64s (repP g k 0)) 2 HG1.out (i64s g) (HLG.out.trans (Nat.min_eq_left hkl).symm) (fun h => ⟨rfl, HSRC.out h⟩) (by have h1 := HRL.out; have h2 := HLG.out; omega) (fun v hv => by obtain ⟨x, -, rfl⟩ := List.mem_map.1 hv; rfl) w.heap.size w hb1 (Nat.le_refl _) ?_; intro w2 HG2 hB2))
  rw [HLG.out]
  have HB : Hid (w2.heap[w.heap.size]? = some (.cells (i64s (repP g k (1 * g.length))).toArray 2 (0, 0))) := by
    have := HG2.out
    rwa [HS0.out, show g.length = 1 * g.length by omega] at this
  clear HG2 HS0 HSRC HRL HLG HG1 HRZ HM1 hb1
  go_loopw [8] (fun v wr => ∃ j : Nat, 1 ≤ j ∧ j ≤ k ∧ v = .int .i64 ((j * g.length : Nat) : Int) ∧ Below w.heap.size w wr ∧ Hid (wr.heap[w.heap.size]? = some (.cells (i64s (repP g k (j * g.length))).toArray 2 (0, 0)))) (fun v _ => t - (intOf v).toNat)
  case atStart => exact ⟨1, Nat.le_refl _, hk1, by rw [Nat.one_mul], hB2, HB⟩
  case round =>
    clear HB hB2
    obtain ⟨j, hj1, hjk, rfl, hb, HB⟩ := hrel
    have hjt : j * g.length ≤ t := by rw [HT.out]; exact Nat.mul_le_mul_right _ hjk
    by_cases hlt : j * g.length < t
    · have hq : j * g.length + min (k - j) j * g.length ≤ k * g.length := by
        rw [← Nat.add_mul]; exact Nat.mul_le_mul_right _ (by omega)
      have hs := splice_rep g k j (min (k - j) j * g.length) hq
      have hj2 : (j + min (k - j) j) * g.length = j * g.length + min (k - j) j * g.length := Nat.add_mul ..
      have hqe : min (k - j) j * g.length = min (t - j * g.length) (j * g.length) := by
        rw [HT.out, ← Nat.sub_mul]; exact (Nat.mul_min_mul_right ..).symm
      have hq3 : j + min (k - j) j ≤ k := by omega
      have HJ2 := Lib.hid (show 1 ≤ j + min (k - j) j ∧ j + min (k - j) j ≤ k from ⟨by omega, by omega⟩)
      have h0 : 0 < j * g.length := by
        rcases Nat.eq_zero_or_pos (j * g.length) with h | h
        · exfalso
          have hg0 : g.length = 0 := by
            rcases Nat.mul_eq_zero.1 h with h | h
            · omega
            · exact h
          rw [HT.out, hg0] at hlt; omega
        · exact h
      rw [← HT.out] at hq
      rw [← hj2] at hs
      have HJS := Lib.hid hj2
      obtain ⟨j', hj'⟩ : ∃ j', j' = j + min (k - j) j := ⟨_, rfl⟩
      rw [← hj'] at hs HJS HJ2
      clear hj2 hq3 hj'
      generalize min (k - j) j * g.length = q at *
      generalize j * g.length = n at *
      have HS := Lib.hid hs
      have hql : (i64s ((repW g k).take q)).length = q := by
        simp only [i64s, List.length_map, List.length_take, repW_len, ← HT.out]; omega
      have HQL := Lib.hid hql
      have hrl : (i64s (repP g k n)).length = t := by rw [HT.out]; simpa [i64s] using repP_len g k n (by rw [← HT.out]; omega)
      have HF : Hid (n + (i64s ((repW g k).take q)).length ≤ (i64s (repP g k n)).length) := by show _ ≤ _; rw [hql, hrl]; exact hq
      have hqn : q ≤ n := by rw [hqe]; exact Nat.min_le_right ..
      have htk : (repW g k).take q = (repP g k n).take q := by
        have : ((repW g k).take n).length = n := by rw [List.length_take, repW_len, ← HT.out]; omega
        rw [repP, List.take_append_of_le_length (by omega), List.take_take, Nat.min_eq_left hqn]
      have HSRC : Hid (∀ (i : Nat) v, (i64s ((repW g k).take q))[i]? = some v → wr.cell? ((⟨w.heap.size, 0, none⟩ : Addr).add i) = some v) := fun i v hv => by
        rw [show (⟨w.heap.size, 0, none⟩ : Addr).add i = ⟨w.heap.size, i, none⟩ by unfold Addr.add; split <;> simp_all]
        rw [Blk.cell (show Blk wr w.heap.size (i64s (repP g k n)) 2 from HB.out)]
        have hi := (List.getElem?_eq_some_iff.1 hv).1
        rw [hql] at hi
        rw [htk] at hv
        simp only [i64s, List.map_take, List.getElem?_take, if_pos hi] at hv ⊢
        exact hv
      have HQ := Lib.hid (hqe.trans (Nat.min_comm ..))
      have i4 : (0 : Int) ≤ (n : Int) := by omega
      have i5 : (n : Int) < (t : Int) := by omega
      have i6 : (n : Int) ≤ (t : Int) := by omega
      have HB0 := Lib.hid hb
      clear hs hql hrl htk hqe hb
      go_wp2_with fail
      go_region_law (refine step_copy_splice rfl (.tmp 41) (.tmp 44) 26 26 rfl 2 Try.underlying26 (by kernel_rfl) (if t = n then some ⟨w.heap.size, 0, none⟩ else some ⟨w.heap.size, n, none⟩) (some ⟨w.heap.size, 0, none⟩) (t - n) (t - n) n t (by first | (simp [Act.eval, Act.put]; done) | rfl) (by first | (simp [Act.eval, Act.put]; done) | rfl) w.heap.size n (i64s (repP g k n)) 2 HB.out (i64s ((repW g k).take q)) (HQL.out.trans HQ.out) (fun _ => ⟨if_neg (by omega), _, rfl, HSRC.out⟩) HF.out (fun v hv => by obtain ⟨x, -, rfl⟩ := List.mem_map.1 hv; rfl) w.heap.size w HB0.out.drew (Nat.le_refl _) ?_; intro w4 hg4 hb4)
      have hg5 := hg4.out
      rw [HS.out] at hg5
      have HG5 := Lib.hid hg5
      have e5 : IntKind.i64.wrap ((n : Int) + ((i64s ((repW g k).take q)).length : Int)) = ((j' * g.length : Nat) : Int) := by
        rw [HQL.out, IntWalk.i64_in _ (by omega), HJS.out]; omega
      rw [e5]
      clear hg4 hg5 e5
      go_wp2_with fail
      go_roundw
      case rel => exact ⟨j', HJ2.out.1, HJ2.out.2, rfl, HG5⟩
      case measure => have h5 := HJS.out; have h6 := HQ.out; simp [intOf]; omega
    · have hj' : j * g.length = k * g.length := by rw [← HT.out]; omega
      rw [hj'] at HB
      rw [repP_all] at HB
      have HM : Hid (Mm w.heap.size w wr [(w.heap.size, i64s (repW g k), 2)] []) := ⟨hb, hb.size, fun x hx => by rw [List.mem_singleton.1 hx]; exact ⟨Nat.le_refl _, HB.out⟩, List.pairwise_singleton .., fun _ h => (by cases h), fun _ h => (by cases h), List.Pairwise.nil⟩
      have hF := Lib.hid (HM.out.addOwn (List.mem_singleton.2 rfl) t (by simp [i64s, repW_len, HT.out]) (by omega))
      rw [hj', ← HT.out] at hlt ⊢
      clear HM HB hj'
      go_wp2_with fail
      go_ret
      exact ⟨_, rfl, hF.out.below, OwnI.of_row (hF.out.own _ (List.mem_cons_self ..))⟩
end Go.Proofs.Yteagecoiijhflaa

/- DoRelationsHold of both sides. -/
namespace Go.Proofs.Yteagecoiijhflaa
open Go.RowKit
set_option linter.unusedVariables false
set_option linter.unusedSimpArgs false

def drL (T : Wd → Bool × Int) : List Wd → Bool × Int
  | [] => (true, 0)
  | r :: t => if (T r).1 = true then drL T t else (false, (T r).2)
def drR (m : Mch) (rows : List Wd) : Bool × Int := match gwsB m rows with | true => drL (trvR m) rows | false => (false, 1)
theorem drL_all {T : Wd → Bool × Int} : ∀ {rows : List Wd}, (∀ i, i < rows.length → (T (rows[i]?.getD [])).1 = true) → drL T rows = (true, 0)
  | [], _ => rfl
  | r :: t, h => by
    have h0 := h 0 (by simp)
    simp only [List.getElem?_cons_zero, Option.getD_some] at h0
    rw [drL, if_pos h0]
    exact drL_all fun i hi => by have := h (i + 1) (by simp; omega); simpa using this
theorem drL_stop {T : Wd → Bool × Int} : ∀ {rows : List Wd} {j : Nat}, j < rows.length → (∀ i, i < j → (T (rows[i]?.getD [])).1 = true) → (T (rows[j]?.getD [])).1 = false → drL T rows = (false, (T (rows[j]?.getD [])).2)
  | [], j, hj, _, _ => by simp at hj
  | r :: t, 0, _, _, h => by
    simp only [List.getElem?_cons_zero, Option.getD_some] at h ⊢
    rw [drL, if_neg (by rw [h]; decide)]
  | r :: t, j + 1, hj, hp, h => by
    have h0 := hp 0 (by omega)
    simp only [List.getElem?_cons_zero, Option.getD_some] at h0
    rw [drL, if_pos h0]
    simp only [List.getElem?_cons_succ] at h ⊢
    exact drL_stop (by simpa using hj) (fun i hi => by have := hp (i + 1) (by omega); simpa using this) h
theorem trvR_cases (m : Mch) (g : Wd) : trvR m g = (true, 0) ∨ trvR m g = (false, 0) ∨ trvR m g = (false, 3) := by
  cases h : secR m (leavesB m) g with
  | ok p => exact .inl (trvR_ok h)
  | error c =>
    rcases qRow_code h with rfl | rfl
    · exact .inr (.inl (trvR_five h))
    · exact .inr (.inr (trvR_three h))
theorem drR_ok {m : Mch} {rows : List Wd} (h : gwsB m rows = true) : drR m rows = drL (trvR m) rows := by rw [drR, h]
theorem drR_bad {m : Mch} {rows : List Wd} (h : gwsB m rows = false) : drR m rows = (false, 1) := by rw [drR, h]
theorem gwsB_row {m : Mch} {rows : List Wd} (h : gwsB m rows = true) {i : Nat} (hi : i < rows.length) : m.Ok ∧ GW m (rows[i]?.getD []) ∧ (rows[i]?.getD []).length ≤ 40 := by
  simp only [gwsB, Bool.and_eq_true, List.all_eq_true] at h
  refine gwP_gw ?_
  rw [List.getElem?_eq_getElem hi, Option.getD_some, gwP, h.1, h.2 _ (List.getElem_mem hi)]; rfl

set_option maxRecDepth 100000 in
set_option maxHeartbeats 4000000 in
theorem implDoRelationsHold_any (m : Mch) (hwf : m.Wf) (v : Value) (rows : List Wd) (hn : rows.length ≤ 1100000) (hx : ∀ i : Nat, (rows[i]?.getD []).length ≤ 1100000) (w : World) (hS : SlII w v rows) :
    Calls Try.prog 26 #[.agg m.cells.toArray, v] w (Ret (.tuple #[.bool (drR m rows).1, .int .i64 (drR m rows).2]) w) := by
  have hm := MAt.boxed w m 29
  have hb0 := boxedBelow w m.cells.toArray 29
  have HS := Lib.hid hS
  have HG := Lib.hid (groupOf_any m hwf v rows hn hx _ (hS.below hb0))
  obtain ⟨a, c, rfl, hc⟩ := hS
  have HC := Lib.hid hc
  clear hc hx
  go_enter Try.func26, Try.ntmps26
  go_wp2_with ((with_reducible refine ld_mach ?_ (.tmp 2) ?_ (w.heap.size) (0) ?_ m hm hwf ?_); exact rfl; exact rfl; exact rfl)
  refine HG.out.mono ?_
  intro e w1 hR
  cases hg : gwsB m rows with
  | false =>
    rw [hg] at hR
    obtain ⟨rfl, hb1⟩ := hR
    have HD := Lib.hid (drR_bad hg)
    have hbb := hb0.trans (hb1.mono hb0.size)
    clear hg HG hm
    go_wp2_with fail
    go_ret2
    rw [HD.out]
    exact ⟨rfl, hbb⟩
  | true =>
    rw [hg] at hR
    obtain ⟨G, rfl, hb1, hGr⟩ := hR
    have HD := Lib.hid (drR_ok hg)
    have HGB := Lib.hid hg
    have HGR := Lib.hid hGr
    have hbb := hb0.trans (hb1.mono hb0.size)
    clear hg HG hm hGr
    go_wp2_with fail
    go_loopw [23] (fun i wr => ∃ j : Nat, j ≤ rows.length ∧ i = .int .i64 j ∧ Below w1.heap.size w1 wr ∧ Hid (∀ i, i < j → (trvR m (rows[i]?.getD [])).1 = true)) (fun i _ => rows.length - (intOf i).toNat)
    case atStart => exact ⟨0, Nat.zero_le _, rfl, Below.refl _ _, fun i h => by omega⟩
    case round =>
      obtain ⟨j, hj, rfl, hb, HE⟩ := hrel
      by_cases hlt : j < rows.length
      · obtain ⟨bb, off, rfl, a', c', e1, e2⟩ := HC.out j hlt
        have hbw := hbb.trans (hb.mono hbb.size)
        have e1 := (hbw.cell (World.block_lt_of_cell? w _ e1)).trans e1
        obtain ⟨hok, hgw, h40⟩ := gwsB_row HGB.out hlt
        have HT := Lib.hid (isTrivial_any G m hwf hok a' _ c' hgw (by omega) wr (HGR.out.keep hb) (e2.keep hbw))
        have HNX : Hid ((trvR m (rows[j]?.getD [])).1 = true → ∀ i, i < j + 1 → (trvR m (rows[i]?.getD [])).1 = true) := fun h i hi => by
          by_cases e : i = j
          · subst e; exact h
          · exact HE.out i (by omega)
        have HST : Hid ((trvR m (rows[j]?.getD [])).1 = false → drR m rows = (false, (trvR m (rows[j]?.getD [])).2)) := fun h => by
          rw [HD.out]; exact drL_stop hlt HE.out h
        have hcs := trvR_cases m (rows[j]?.getD [])
        have i1 : (0 : Int) ≤ (j : Int) := by omega
        have i2 : (j : Int) < (rows.length : Int) := by omega
        clear hgw h40 e2
        obtain ⟨T, hT⟩ : ∃ T, T = trvR m (rows[j]?.getD []) := ⟨_, rfl⟩
        rw [← hT] at HT HNX HST hcs
        generalize rows[j]?.getD [] = r at *
        clear hT
        go_wp2_with fail
        refine HT.out.mono ?_
        rintro e w2 ⟨rfl, hb2⟩
        have hb3 := hb.trans (hb2.mono hb.size)
        have hend := hbb.trans (hb3.mono hbb.size)
        clear HT
        rcases hcs with rfl | rfl | rfl
        · have HN := Lib.hid (HNX.out rfl)
          go_wp2_with fail
          go_roundw
          case rel => exact ⟨j + 1, by omega, by go_num, hb3, HN.out⟩
          case measure => simp [intOf] <;> omega
        · have HN := Lib.hid (HST.out rfl)
          go_wp2_with fail
          go_ret2
          rw [HN.out]
          exact ⟨rfl, hend⟩
        · have HN := Lib.hid (HST.out rfl)
          go_wp2_with fail
          go_ret2
          rw [HN.out]
          exact ⟨rfl, hend⟩
      · have HN : Hid (drR m rows = (true, 0)) := by show _ = _; rw [HD.out]; exact drL_all fun i hi => HE.out i (by omega)
        have hend := hbb.trans (hb.mono hbb.size)
        go_wp2_with fail
        go_ret2
        rw [HN.out]
        exact ⟨rfl, hend⟩

set_option maxRecDepth 100000 in
set_option maxHeartbeats 4000000 in
theorem specDoRelationsHold_any (m : Mch) (hwf : m.Wf) (v : Value) (rows : List Wd) (hn : rows.length ≤ 1100000) (hx : ∀ i : Nat, (rows[i]?.getD []).length ≤ 1100000) (w : World) (hS : SlII w v rows) :
    Calls Try.prog 24 #[.agg m.cells.toArray, v] w (Ret (.tuple #[.bool (drR m rows).1, .int .i64 (drR m rows).2]) w) := by
  have hm := MAt.boxed w m 29
  have hb0 := boxedBelow w m.cells.toArray 29
  have HG := Lib.hid (l02Code_any m hwf v rows hn hx _ (hS.below hb0))
  have HIM := Lib.hid (mach_info hwf)
  have hmx : Try.prog.follows .mixedOrders = true := by kernel_rfl
  have HMX := Lib.hid hmx
  obtain ⟨a, c, rfl, hc⟩ := hS
  have HC := Lib.hid hc
  clear hc hx hmx
  go_enter Try.func24, Try.ntmps24
  go_wp2_with ((with_reducible refine ld_mach ?_ (.tmp 2) ?_ (w.heap.size) (0) ?_ m hm hwf ?_); exact rfl; exact rfl; exact rfl)
  refine HG.out.mono ?_
  rintro e w1 ⟨rfl, hb1⟩
  have hbb := hb0.trans (hb1.mono hb0.size)
  have hm1 := hm.keep hb1 hwf
  clear hm
  cases hg : gwsB m rows with
  | false =>
    have HD := Lib.hid (drR_bad hg)
    have hcg := codeG_bad hg
    rw [hcg]
    clear hg HG hm1 hcg
    go_wp2_with fail
    go_ret2
    rw [HD.out]
    exact ⟨rfl, hbb⟩
  | true =>
    have HD := Lib.hid (drR_ok hg)
    have HGB := Lib.hid hg
    have hcg := codeG_ok hg
    have HMA := Lib.hid hm1
    rw [hcg]
    clear hg HG hcg hm1
    go_wp2_with fail
    go_loopw [7] (fun i wr => ∃ j : Nat, j ≤ rows.length ∧ i = .int .i64 j ∧ Below w1.heap.size w1 wr ∧ Hid (∀ i, i < j → (trvR m (rows[i]?.getD [])).1 = true)) (fun i _ => rows.length - (intOf i).toNat)
    case atStart => exact ⟨0, Nat.zero_le _, rfl, Below.refl _ _, fun i h => by omega⟩
    case round =>
      obtain ⟨j, hj, rfl, hb, HE⟩ := hrel
      by_cases hlt : j < rows.length
      · obtain ⟨bb, off, rfl, a', c', e1, e2⟩ := HC.out j hlt
        have hbw := hbb.trans (hb.mono hbb.size)
        obtain ⟨hok, hgw, h40⟩ := gwsB_row HGB.out hlt
        have HT : Hid (∀ W, Below w1.heap.size w1 W → Calls Try.prog 62 #[.agg m.cells.toArray, .slice a' (rows[j]?.getD []).length c'] W (Ret (.tuple #[.bool (trvR m (rows[j]?.getD [])).1, .int .i64 (trvR m (rows[j]?.getD [])).2]) W)) := fun W hW =>
          l02Trivial_any m hwf hok a' _ c' hgw (by omega) W (e2.keep (hbb.trans (hW.mono hbb.size)))
        have HSM : Hid (∀ W, Below w1.heap.size w1 W → MAt W w.heap.size 0 m ∧ W.cell? ⟨bb, off + j, none⟩ = some (.slice a' (rows[j]?.getD []).length c')) := fun W hW =>
          ⟨HMA.out.keep hW hwf, ((hbb.trans (hW.mono hbb.size)).cell (World.block_lt_of_cell? w _ e1)).trans e1⟩
        have HNX : Hid ((trvR m (rows[j]?.getD [])).1 = true → ∀ i, i < j + 1 → (trvR m (rows[i]?.getD [])).1 = true) := fun h i hi => by
          by_cases e : i = j
          · subst e; exact h
          · exact HE.out i (by omega)
        have HST : Hid ((trvR m (rows[j]?.getD [])).1 = false → drR m rows = (false, (trvR m (rows[j]?.getD [])).2)) := fun h => by
          rw [HD.out]; exact drL_stop hlt HE.out h
        have hcs := trvR_cases m (rows[j]?.getD [])
        have i1 : (0 : Int) ≤ (j : Int) := by omega
        have i2 : (j : Int) < (rows.length : Int) := by omega
        clear hgw h40 e2 e1
        obtain ⟨T, hT⟩ : ∃ T, T = trvR m (rows[j]?.getD []) := ⟨_, rfl⟩
        rw [← hT] at HT HNX HST hcs
        generalize rows[j]?.getD [] = r at *
        clear hT
        go_wp2_with fail
        have hbd := hb.drew
        refine region_S (fun W => MAt W w.heap.size 0 m ∧ W.cell? ⟨bb, off + j, none⟩ = some (.slice a' r.length c')) [] 11 rfl HMX.out (HSM.out _ hbd) (fun hU => ?_)
        obtain ⟨W, hW⟩ : ∃ W, W = wr.drew := ⟨_, rfl⟩
        rw [← hW] at hU hbd ⊢
        clear hW
        (refine AnyS.takeS (i := 0) rfl (by kernel_rfl) (by kernel_rfl) (by kernel_rfl) (by rfl) (by kernel_rfl) (by kernel_rfl) (fun _ _ _ h => h) (by rfl) (fun W hW => run_ld Try.underlying29 rfl HIM.out (.tmp 2) rfl rfl hW.1) hU (fun hU => ?_); (try simp only [Act.put, List.setIfInBounds_toArray, List.set_cons_zero, List.set_cons_succ]))
        (refine AnyS.take (i := 1) rfl (by kernel_rfl) (by kernel_rfl) (by kernel_rfl) (by rfl) (fun _ _ _ h => h) (by rfl) (by intro w; go_simp; with_reducible rfl) hU (fun hU => ?_); (try simp only [Act.put, List.setIfInBounds_toArray, List.set_cons_zero, List.set_cons_succ]); refine AnyS.take (i := 2) rfl (by kernel_rfl) (by kernel_rfl) (by kernel_rfl) (by rfl) (fun _ _ _ h => h) (by rfl) (by intro w; go_simp; with_reducible rfl) hU (fun hU => ?_); (try simp only [Act.put, List.setIfInBounds_toArray, List.set_cons_zero, List.set_cons_succ]); refine AnyS.take (i := 3) rfl (by kernel_rfl) (by kernel_rfl) (by kernel_rfl) (by rfl) (fun _ _ _ h => h) (by rfl) (by intro w; go_simp; with_reducible rfl) hU (fun hU => ?_); (try simp only [Act.put, List.setIfInBounds_toArray, List.set_cons_zero, List.set_cons_succ]))
        (refine AnyS.takeS (i := 4) rfl (by kernel_rfl) (by kernel_rfl) (by kernel_rfl) (by rfl) (by kernel_rfl) (by kernel_rfl) (fun _ _ _ h => h) (by rfl) (by intro W hSw; have h1 := hSw.2; clear hSw; go_simp; with_reducible rfl) hU (fun hU => ?_); (try simp only [Act.put, List.setIfInBounds_toArray, List.set_cons_zero, List.set_cons_succ]))
        refine AnyS.branch (rs := [5]) (by kernel_rfl) (by simp) (AllS.cons rfl (fun K hK => ?_) AllS.nil)
        go_simp
        refine (HT.out _ hbd).mono ?_
        rintro e w4 ⟨rfl, hb4⟩
        have hb3 := hbd.trans (hb4.mono hbd.size)
        refine hK.out _ _ (.inl (HSM.out _ hb3)) (fun hU => ?_)
        clear hK K
        (try simp only [Act.put, List.setIfInBounds_toArray, List.set_cons_zero, List.set_cons_succ])
        (refine AnyS.take (i := 6) rfl (by kernel_rfl) (by kernel_rfl) (by kernel_rfl) (by rfl) (fun _ _ _ h => h) (by rfl) (by intro w; go_simp; with_reducible rfl) hU (fun hU => ?_); (try simp only [Act.put, List.setIfInBounds_toArray, List.set_cons_zero, List.set_cons_succ]); refine AnyS.take (i := 7) rfl (by kernel_rfl) (by kernel_rfl) (by kernel_rfl) (by rfl) (fun _ _ _ h => h) (by rfl) (by intro w; go_simp; with_reducible rfl) hU (fun hU => ?_); (try simp only [Act.put, List.setIfInBounds_toArray, List.set_cons_zero, List.set_cons_succ]); refine AnyS.take (i := 8) rfl (by kernel_rfl) (by kernel_rfl) (by kernel_rfl) (by rfl) (fun _ _ _ h => h) (by rfl) (by intro w; go_simp; with_reducible rfl) hU (fun hU => ?_); (try simp only [Act.put, List.setIfInBounds_toArray, List.set_cons_zero, List.set_cons_succ]); refine AnyS.take (i := 9) rfl (by kernel_rfl) (by kernel_rfl) (by kernel_rfl) (by rfl) (fun _ _ _ h => h) (by rfl) (by intro w; go_simp; with_reducible rfl) hU (fun hU => ?_); (try simp only [Act.put, List.setIfInBounds_toArray, List.set_cons_zero, List.set_cons_succ]); refine AnyS.take (i := 10) rfl (by kernel_rfl) (by kernel_rfl) (by kernel_rfl) (by rfl) (fun _ _ _ h => h) (by rfl) (by intro w; go_simp; with_reducible rfl) hU (fun hU => ?_); (try simp only [Act.put, List.setIfInBounds_toArray, List.set_cons_zero, List.set_cons_succ]))
        refine AnyS.done (by kernel_rfl) ?_ _
        have hend := hbb.trans (hb3.mono hbb.size)
        clear hU HT
        rcases hcs with rfl | rfl | rfl
        · have HN := Lib.hid (HNX.out rfl)
          go_wp2_with fail
          go_roundw
          case rel => exact ⟨j + 1, by omega, by go_num, hb3, HN.out⟩
          case measure => simp [intOf] <;> omega
        · have HN := Lib.hid (HST.out rfl)
          go_wp2_with fail
          go_ret2
          rw [HN.out]
          exact ⟨rfl, hend⟩
        · have HN := Lib.hid (HST.out rfl)
          go_wp2_with fail
          go_ret2
          rw [HN.out]
          exact ⟨rfl, hend⟩
      · have HN : Hid (drR m rows = (true, 0)) := by show _ = _; rw [HD.out]; exact drL_all fun i hi => HE.out i (by omega)
        have hend := hbb.trans (hb.mono hbb.size)
        go_wp2_with fail
        go_ret2
        rw [HN.out]
        exact ⟨rfl, hend⟩
end Go.Proofs.Yteagecoiijhflaa

/- ReturnOf of the program. -/
namespace Go.Proofs.Yteagecoiijhflaa
open Go.RowKit
set_option linter.unusedVariables false
set_option linter.unusedSimpArgs false

/-- what the return of a letter is: the word, the number of letters, the code -/
def retI (m : Mch) (g : Wd) (x : Nat) : Wd × Int × Int := match retR m g x with
  | none => ([], 0, 3)
  | some (s, k) => (s, k, 0)
def retF (m : Mch) (g : Wd) (x : Int) : Wd × Int × Int := match gwsB m [g] with
  | false => ([], 0, 1)
  | true => if inR x 0 (m.L - 1) = true then retI m g x.toNat else ([], 0, 2)
def RetR3 (r : Wd × Int × Int) (w : World) (e : Ending) (w' : World) : Prop := ∃ v, e = .returned (.tuple #[v, .int .i64 r.2.1, .int .i64 r.2.2]) ∧ Below w.heap.size w w' ∧ OwnI w' w.heap.size v r.1
theorem retI_none {m : Mch} {g : Wd} {x : Nat} (h : 40 < cycN m g x * g.length) : retI m g x = ([], 0, 3) := by rw [retI, retR, if_pos h]
theorem retI_some {m : Mch} {g : Wd} {x : Nat} (h : ¬ 40 < cycN m g x * g.length) : retI m g x = (nrm m (ledS m (repW g (cycN m g x)) x), (cycN m g x : Int), 0) := by rw [retI, retR, if_neg h]
theorem RetR3.nil {r : Wd × Int × Int} {k c : Int} (h : r = ([], k, c)) {w w' : World} (hb : Below w.heap.size w w') : RetR3 r w (.returned (.tuple #[.slice none 0 0, .int .i64 k, .int .i64 c])) w' := by
  subst h; exact ⟨_, rfl, hb, OwnI.nil _ _⟩

set_option maxRecDepth 100000 in
set_option maxHeartbeats 2000000 in
theorem returnOf_any (G : Nat) (m : Mch) (hwf : m.Wf) (hok : m.Ok) (a : Option Addr) (g : Wd) (c : Nat) (hg : GW m g) (hl : g.length ≤ 40) (x : Nat) (hx : x < m.l) (w : World) (hG : GrpR w G m) (hI : IntsAt w a g) :
    Calls Try.prog 60 #[.pointer (some ⟨G, 0, none⟩), .slice a g.length c, .int .i64 (x : Int)] w (RetR3 (retI m g x) w) := by
  have HG := Lib.hid hG
  have HI := Lib.hid hI
  have HGW := Lib.hid hg
  have hn := cycN_le m g x
  have hm1 : g.length * cycN m g x ≤ 120 := by
    have := Nat.mul_le_mul hl hn.2
    omega
  have HC := Lib.hid (cycle_any G m hwf hok a g c hg (by omega) x hx w hG hI)
  have HR1 : Hid (40 < cycN m g x * g.length → retI m g x = ([], 0, 3)) := retI_none
  have HR2 : Hid (¬ 40 < cycN m g x * g.length → retI m g x = (nrm m (ledS m (repW g (cycN m g x)) x), (cycN m g x : Int), 0)) := retI_some
  clear hG hI hg
  obtain ⟨R, hR⟩ : ∃ R, R = retI m g x := ⟨_, rfl⟩
  rw [← hR] at HR1 HR2 ⊢
  clear hR
  generalize cycN m g x = n at *
  have e1 : IntKind.i64.wrap ((g.length : Int) * (n : Int)) = ((g.length * n : Nat) : Int) := by rw [← Int.natCast_mul, IntWalk.i64_in _ (by omega)]
  go_enter Try.func60, Try.ntmps60
  go_wp2_with fail
  refine HC.out.mono ?_
  rintro e w1 ⟨b, c', rfl, hb1⟩
  clear HC
  by_cases h40 : 40 < n * g.length
  · have hr := Lib.hid (HR1.out h40)
    have h4 : (40 : Int) < ((g.length * n : Nat) : Int) := by rw [Nat.mul_comm] at h40; omega
    clear HR1 HR2
    go_wp2_with fail
    go_ret3
    exact RetR3.nil hr.out hb1
  · have hr := Lib.hid (HR2.out h40)
    have h4 : ((g.length * n : Nat) : Int) ≤ 40 := by rw [Nat.mul_comm] at h40; omega
    have HRP := Lib.hid (repeat_any a g c n (by omega) hn.1 hn.2 w1 (HI.out.keep hb1))
    clear HR1 HR2
    go_wp2_with fail
    refine HRP.out.mono ?_
    rintro e w2 ⟨v, rfl, hb2, hO⟩
    obtain ⟨a2, c2, rfl, hI2⟩ := hO.form
    have hbb2 := hb1.trans (hb2.mono hb1.size)
    have hlr : (repW g n).length ≤ 1000 := by rw [repW_len, Nat.mul_comm]; omega
    have HAT := Lib.hid (at_any G m hwf hok a2 (repW g n) c2 (repW_gw HGW.out n) hlr x hx w2 (HG.out.keep hbb2) hI2)
    clear HRP hO hI2
    go_wp2_with fail
    refine HAT.out.mono ?_
    rintro e w3 ⟨v, rfl, hb3, hO⟩
    obtain ⟨a3, c3, rfl, hI3⟩ := hO.form
    have hbb3 := hbb2.trans (hb3.mono hbb2.size)
    have HNO := Lib.hid (normal_any G m hwf hok a3 (ledS m (repW g n) x) c3 (ledS_gw hok hwf (repW_gw HGW.out n) hx) (by rw [ledS_len]; exact hlr) w3 (HG.out.keep hbb3) hI3)
    clear HAT hO hI3
    go_wp2_with fail
    refine HNO.out.mono ?_
    rintro e w4 ⟨v, rfl, hb4, hO⟩
    have hbb4 := hbb3.trans (hb4.mono hbb3.size)
    have HO := Lib.hid hO
    clear HNO hO
    go_wp2_with fail
    go_ret3
    rw [hr.out]
    exact ⟨_, rfl, hbb4, HO.out.less (Nat.le_trans hbb2.size hb3.size)⟩

theorem retF_bad {m : Mch} {g : Wd} {x : Int} (h : gwsB m [g] = false) : retF m g x = ([], 0, 1) := by rw [retF, h]
theorem retF_out {m : Mch} {g : Wd} {x : Int} (h : gwsB m [g] = true) (hx : inR x 0 (m.L - 1) = false) : retF m g x = ([], 0, 2) := by rw [retF, h]; simp only; rw [if_neg (by rw [hx]; decide)]
theorem retF_in {m : Mch} {g : Wd} {x : Int} (h : gwsB m [g] = true) (hx : inR x 0 (m.L - 1) = true) : retF m g x = retI m g x.toNat := by rw [retF, h]; simp only; rw [if_pos hx]
theorem slII_one {w : World} {a : Option Addr} {g : Wd} {c : Nat} (hI : IntsAt w a g) {w1 : World} (hb : Below w.heap.size w w1) (T : TypeId) :
    SlII (w1.alloc (.cells #[.slice a g.length c] T)) (.slice (some ⟨w1.heap.size, 0, none⟩) 1 1) [g] := by
  refine ⟨_, _, rfl, fun i hi => ?_⟩
  have : i = 0 := by simpa using hi
  subst this
  refine ⟨_, _, rfl, a, c, ?_, ?_⟩
  · have hM := ((Mm.start w1).alloc #[.slice a g.length c] T).at 0 rfl
    exact hM.cell' rfl
  · exact (hI.keep hb).keep ((Below.refl _ _).alloc (Nat.le_refl _) _)

set_option maxRecDepth 100000 in
set_option maxHeartbeats 2000000 in
theorem implReturnOf_any (m : Mch) (hwf : m.Wf) (a : Option Addr) (g : Wd) (c : Nat) (hl : g.length ≤ 1100000) (x : Int) (w : World) (hI : IntsAt w a g) :
    Calls Try.prog 19 #[.agg m.cells.toArray, .slice a g.length c, .int .i64 x] w (RetR3 (retF m g x) w) := by
  have hm := MAt.boxed w m 29
  have hb0 := boxedBelow w m.cells.toArray 29
  have HI := Lib.hid hI
  have hsz : (w.alloc (.cells m.cells.toArray 29)).heap.size = w.heap.size + 1 := by simp
  have hS := slII_one (c := c) hI hb0 26
  rw [hsz] at hS
  have HG := Lib.hid (groupOf_any m hwf _ [g] (by simp) (fun i => by
    cases i with
    | zero => simpa using hl
    | succ i => simp) _ hS)
  have hb1 : Below w.heap.size w ((w.alloc (.cells m.cells.toArray 29)).alloc (.cells #[.slice a g.length c] 26)) := hb0.alloc (by omega) _
  have HB1 := Lib.hid hb1
  have HM1 := Lib.hid (hm.keep ((Below.refl _ _).alloc (Nat.le_refl (w.alloc (.cells m.cells.toArray 29)).heap.size) (.cells #[.slice a g.length c] 26)) hwf)
  clear hI hS hb0 hb1 hsz
  go_enter Try.func19, Try.ntmps19
  go_wp2_with ((with_reducible refine ld_mach ?_ (.tmp 3) ?_ (w.heap.size) (0) ?_ m hm hwf ?_); exact rfl; exact rfl; exact rfl)
  refine HG.out.mono ?_
  intro e w2 hR
  clear HG hm
  have hs1 := HB1.out.size
  cases hg : gwsB m [g] with
  | false =>
    rw [hg] at hR
    obtain ⟨rfl, hb2⟩ := hR
    have HD := Lib.hid (retF_bad (x := x) hg)
    have hbb := HB1.out.trans (hb2.mono hs1)
    clear hg hs1 HB1 HM1
    go_wp2_with fail
    go_ret3
    exact RetR3.nil HD.out hbb
  | true =>
    rw [hg] at hR
    obtain ⟨G, rfl, hb2, hGr⟩ := hR
    obtain ⟨hok, hgw, h40⟩ := gwsB_row hg (show 0 < [g].length by simp)
    simp only [List.getElem?_cons_zero, Option.getD_some] at hgw h40
    have hbb := HB1.out.trans (hb2.mono hs1)
    have hm2 := HM1.out.keep hb2 hwf
    have cl := hm2.l
    rw [hok.L_eq] at cl
    have h3 := hok.l_le
    have h2 := hok.l_ge
    have HGR := Lib.hid hGr
    have HGW := Lib.hid hgw
    have HL := Lib.hid hok.L_eq
    have HGB := Lib.hid hg
    clear hs1 HB1 HM1 hm2 hGr hgw hg
    cases hx : inR x 0 ((m.l : Int) - 1) with
    | false =>
      have HD : Hid (retF m g x = ([], 0, 2)) := retF_out HGB.out (by rw [HL.out]; exact hx)
      go_wp2_with (go_at_call 59; refine (within_any _ _ _ _).mono ?_; rintro e w' ⟨rfl, rfl⟩)
      go_ret3
      exact RetR3.nil HD.out hbb
    | true =>
      have HD : Hid (retF m g x = retI m g x.toNat) := retF_in HGB.out (by rw [HL.out]; exact hx)
      obtain ⟨y, rfl⟩ : ∃ y : Nat, x = (y : Int) := ⟨x.toNat, by simp only [inR, Bool.and_eq_true, decide_eq_true_eq] at hx; omega⟩
      have hy : y < m.l := by simp only [inR, Bool.and_eq_true, decide_eq_true_eq] at hx; omega
      rw [Int.toNat_natCast] at HD
      have HRO := Lib.hid (returnOf_any G m hwf hok a g c HGW.out h40 y hy w2 HGR.out (HI.out.keep hbb))
      go_wp2_with (first | (go_at_call 59; refine (within_any _ _ _ _).mono ?_; rintro e w' ⟨rfl, rfl⟩) | (go_at_call 60; refine HRO.out.mono ?_; rintro e w3 ⟨v, rfl, hb3, hO⟩))
      have hbb3 := hbb.trans (hb3.mono hbb.size)
      have HO := Lib.hid (hO.less hbb.size)
      clear hO HRO
      go_wp2_with fail
      go_ret3
      rw [HD.out]
      exact ⟨_, rfl, hbb3, HO.out⟩
end Go.Proofs.Yteagecoiijhflaa

/- The reference's turn: a machine, its inverse, its classes, its trivial states. -/
namespace Go.Proofs.Yteagecoiijhflaa
open Go.RowKit
set_option linter.unusedVariables false
set_option linter.unusedSimpArgs false

/-- the cells of l06Turn -/
def tcells (m : Mch) : List Value := m.cells ++ ((invM m).cells ++ (clsV m ++ trvV m))
def zM : List Value := Value.int .i64 0 :: Value.int .i64 0 :: List.replicate 96 (Value.int .u8 0)
def zC : List Value := List.replicate 16 (Value.int .i64 0)
def zT : List Value := List.replicate 16 (Value.bool false)
theorem zeroT : Try.zeroCells67.toList = zM ++ (zM ++ (zC ++ zT)) := by kernel_rfl
theorem infoT : (Try.prog.info? 67).map (·.zero) = some (some (.agg Try.zeroCells67)) := by kernel_rfl
theorem placesT : (match Try.prog.underlying 67 with | some (.struct fields) => fields.toList.mapM (fun f => (Try.prog.info? f.type).map fun i => (f.offset, i.size)) | _ => none) = some [(0, 98), (98, 98), (196, 16), (212, 16)] := by kernel_rfl
theorem clsV_len (m : Mch) : (clsV m).length = 16 := by simp [clsV, nvs]
theorem trvV_len (m : Mch) : (trvV m).length = 16 := by simp [trvV, bls]
theorem tcells_len {m : Mch} (hwf : m.Wf) (hok : m.Ok) : (tcells m).length = 228 := by
  have hl1 := Mch.cells_length hwf
  have hl2 := Mch.cells_length (invM_wf hok hwf)
  simp only [tcells, List.length_append, hl1, hl2, clsV_len, trvV_len]
theorem builtT {m : Mch} (hwf : m.Wf) (hok : m.Ok) :
    Try.prog.built 67 [(0, .agg m.cells.toArray), (1, .agg (invM m).cells.toArray), (2, .agg (clsV m).toArray), (3, .agg (trvV m).toArray)] = some (tcells m).toArray := by
  have hl1 := Mch.cells_length hwf
  have hl2 := Mch.cells_length (invM_wf hok hwf)
  have hl3 := clsV_len m
  have hl4 := trvV_len m
  have hi := infoT
  have hp := placesT
  unfold Program.built
  cases h1 : Try.prog.info? 67 with
  | none => rw [h1] at hi; cases hi
  | some it =>
    rw [h1] at hi
    simp only [Option.map_some, Option.some.injEq] at hi
    cases h2 : Try.prog.underlying 67 with
    | none => rw [h2] at hp; cases hp
    | some td =>
      rw [h2] at hp
      cases td <;> try (cases hp; done)
      rename_i fields
      simp only at hp ⊢
      rw [hi, hp]
      simp only [Value.cells]
      have hz : Try.zeroCells67.size = 228 := by rw [← Array.length_toList, zeroT]; rfl
      have e1 : splice Try.zeroCells67.toList 0 m.cells = m.cells ++ (zM ++ (zC ++ zT)) := by
        rw [zeroT]; exact splice_app [] zM _ _ (by rw [hl1]; rfl)
      have e2 : splice (m.cells ++ (zM ++ (zC ++ zT))) 98 (invM m).cells = m.cells ++ ((invM m).cells ++ (zC ++ zT)) := by
        have := splice_app m.cells zM (zC ++ zT) (invM m).cells (by rw [hl2]; rfl)
        rwa [hl1] at this
      have e3 : splice (m.cells ++ ((invM m).cells ++ (zC ++ zT))) 196 (clsV m) = m.cells ++ ((invM m).cells ++ (clsV m ++ zT)) := by
        have := splice_app (m.cells ++ (invM m).cells) zC zT (clsV m) (by rw [hl3]; rfl)
        simpa [hl1, hl2] using this
      have e4 : splice (m.cells ++ ((invM m).cells ++ (clsV m ++ zT))) 212 (trvV m) = tcells m := by
        have := splice_app (m.cells ++ ((invM m).cells ++ clsV m)) zT [] (trvV m) (by rw [hl4]; rfl)
        simpa [hl1, hl2, hl3, tcells] using this
      rw [fill_step _ _ 0 _ _ 0 98 rfl (by simp [Value.cells, hl1]) (by rw [hz]; omega)]
      simp only [Value.cells]
      rw [e1, fill_step _ _ 1 _ _ 98 98 rfl (by simp [Value.cells, hl2]) (by simp [hl1, zM, zC, zT])]
      simp only [Value.cells]
      rw [e2, fill_step _ _ 2 _ _ 196 16 rfl (by simp [Value.cells, hl3]) (by simp [hl1, hl2, zC, zT])]
      simp only [Value.cells]
      rw [e3, fill_step _ _ 3 _ _ 212 16 rfl (by simp [Value.cells, hl4]) (by simp [hl1, hl2, hl3, zT])]
      simp only [Value.cells]
      rw [e4]
      rfl

theorem infoT228 {m : Mch} (hwf : m.Wf) (hok : m.Ok) : (Try.prog.info? 67).map (·.size) = some (tcells m).length := by rw [tcells_len hwf hok]; kernel_rfl
theorem clsV_one (m : Mch) : ∀ v ∈ clsV m, v.oneCell' = true := nvs_one _ _
theorem trvV_one (m : Mch) : ∀ v ∈ trvV m, v.oneCell' = true := fun v hv => by
  simp only [trvV, bls, List.mem_map] at hv; obtain ⟨z, _, rfl⟩ := hv; rfl
theorem tcells_one (m : Mch) : ∀ v ∈ tcells m, v.oneCell' = true := fun v hv => by
  simp only [tcells, List.mem_append] at hv
  rcases hv with h | h | h | h
  · exact mach_ones m v h
  · exact mach_ones _ v h
  · exact clsV_one m v h
  · exact trvV_one m v h
theorem zeroT_len : Try.zeroCells67.toList.length = 228 := by kernel_rfl

set_option maxRecDepth 100000 in
set_option maxHeartbeats 4000000 in
theorem l06Of_any (m : Mch) (hwf : m.Wf) (hok : m.Ok) (w : World) :
    Calls Try.prog 56 #[.agg m.cells.toArray] w (Ret (.agg (tcells m).toArray) w) := by
  have hM0 := ((Mm.start w).alloc m.cells.toArray 29).alloc Try.zeroCells67 67
  rw [show (w.alloc (.cells m.cells.toArray 29)).heap.size = w.heap.size + 1 by simp] at hM0
  have hm0 := hM0.mach 1 rfl
  have HSM : Hid (∀ W, Below ((w.alloc (.cells m.cells.toArray 29)).alloc (.cells Try.zeroCells67 67)).heap.size ((w.alloc (.cells m.cells.toArray 29)).alloc (.cells Try.zeroCells67 67)) W → MAt W w.heap.size 0 m) := fun W hW => hm0.keep hW hwf
  have HM0 := Lib.hid hM0
  have hmx : Try.prog.follows .mixedOrders = true := by kernel_rfl
  have HMX := Lib.hid hmx
  have HIM := Lib.hid (mach_info hwf)
  have HI := Lib.hid (infoT228 hwf hok)
  have H1 := Lib.hid (tcells_one m)
  have HLN := Lib.hid (tcells_len hwf hok)
  have HBT := Lib.hid (builtT hwf hok)
  clear hM0 hm0 hmx
  go_enter Try.func56, Try.ntmps56
  go_wp2_with fail
  refine region_S (fun W => MAt W w.heap.size 0 m) [] 9 rfl HMX.out (HSM.out _ (Below.refl _ _).drew) (fun hU => ?_)
  obtain ⟨W0, hW0⟩ : ∃ W, W = ((w.alloc (.cells m.cells.toArray 29)).alloc (.cells Try.zeroCells67 67)) := ⟨_, rfl⟩
  rw [← hW0] at hU HSM HM0 ⊢
  clear hW0
  obtain ⟨W, hW⟩ : ∃ W, W = W0.drew := ⟨_, rfl⟩
  have hBW : Below W0.heap.size W0 W := by rw [hW]; exact (Below.refl _ _).drew
  rw [← hW] at hU ⊢
  clear hW
  (refine AnyS.takeS (i := 0) rfl (by kernel_rfl) (by kernel_rfl) (by kernel_rfl) (by rfl) (by kernel_rfl) (by kernel_rfl) (fun _ _ _ h => h) (by rfl) (fun W hW => run_ld Try.underlying29 rfl HIM.out (.tmp 1) rfl rfl hW) hU (fun hU => ?_); (try simp only [Act.put, List.setIfInBounds_toArray, List.set_cons_zero, List.set_cons_succ]))
  (refine AnyS.takeS (i := 1) rfl (by kernel_rfl) (by kernel_rfl) (by kernel_rfl) (by rfl) (by kernel_rfl) (by kernel_rfl) (fun _ _ _ h => h) (by rfl) (fun W hW => run_ld Try.underlying29 rfl HIM.out (.tmp 1) rfl rfl hW) hU (fun hU => ?_); (try simp only [Act.put, List.setIfInBounds_toArray, List.set_cons_zero, List.set_cons_succ]))
  (refine AnyS.takeS (i := 3) rfl (by kernel_rfl) (by kernel_rfl) (by kernel_rfl) (by rfl) (by kernel_rfl) (by kernel_rfl) (fun _ _ _ h => h) (by rfl) (fun W hW => run_ld Try.underlying29 rfl HIM.out (.tmp 1) rfl rfl hW) hU (fun hU => ?_); (try simp only [Act.put, List.setIfInBounds_toArray, List.set_cons_zero, List.set_cons_succ]))
  (refine AnyS.takeS (i := 5) rfl (by kernel_rfl) (by kernel_rfl) (by kernel_rfl) (by rfl) (by kernel_rfl) (by kernel_rfl) (fun _ _ _ h => h) (by rfl) (fun W hW => run_ld Try.underlying29 rfl HIM.out (.tmp 1) rfl rfl hW) hU (fun hU => ?_); (try simp only [Act.put, List.setIfInBounds_toArray, List.set_cons_zero, List.set_cons_succ]))
  refine AnyS.branch (rs := [2]) (by kernel_rfl) (by simp) (AllS.cons rfl (fun K hK => ?_) AllS.nil)
  go_simp
  refine (l01Inverse_any m hwf hok _).mono ?_
  rintro e w2 ⟨rfl, hb2⟩
  have hB2 := hBW.trans (hb2.mono hBW.size)
  refine hK.out _ _ (.inl (HSM.out _ hB2)) (fun hU => ?_)
  clear hK K hBW
  (try simp only [Act.put, List.setIfInBounds_toArray, List.set_cons_zero, List.set_cons_succ])
  refine AnyS.branch (rs := [4]) (by kernel_rfl) (by simp) (AllS.cons rfl (fun K hK => ?_) AllS.nil)
  go_simp
  refine (l01Classes_any m hwf hok _).mono ?_
  rintro e w3 ⟨rfl, hb3⟩
  have hB3 := hB2.trans (hb3.mono hB2.size)
  refine hK.out _ _ (.inl (HSM.out _ hB3)) (fun hU => ?_)
  clear hK K hB2
  (try simp only [Act.put, List.setIfInBounds_toArray, List.set_cons_zero, List.set_cons_succ])
  refine AnyS.branch (rs := [6]) (by kernel_rfl) (by simp) (AllS.cons rfl (fun K hK => ?_) AllS.nil)
  go_simp
  refine (l01Trivial_any m hwf hok _).mono ?_
  rintro e w4 ⟨rfl, hb4⟩
  have hB4 := hB3.trans (hb4.mono hB3.size)
  refine hK.out _ _ (.inl (HSM.out _ hB4)) (fun hU => ?_)
  clear hK K hB3
  (try simp only [Act.put, List.setIfInBounds_toArray, List.set_cons_zero, List.set_cons_succ])
  refine AnyS.take (i := 7) rfl (by kernel_rfl) (by kernel_rfl) (by kernel_rfl) (by rfl) (fun _ _ _ h => h) (by rfl) (fun w => run_bld rfl HBT.out rfl) hU (fun hU => ?_)
  (try simp only [Act.put, List.setIfInBounds_toArray, List.set_cons_zero, List.set_cons_succ])
  have hM4 := HM0.out.call hB4
  have ht := (hM4.at 0 rfl).there 0 (tcells m).length (by simp only; rw [zeroT_len, HLN.out]; omega)
  have hM5 := hM4.setAll 0 rfl (vs := tcells m) (by rw [zeroT_len, HLN.out])
  simp only [List.set_cons_zero] at hM5
  have HM5 := Lib.hid hM5
  refine AnyS.branch (rs := [8]) (by kernel_rfl) (by simp) (AllS.cons rfl (fun K hK => ?_) AllS.nil)
  rw [if_pos (by kernel_rfl)]
  refine wp_store_mid 67 (.tmp 2) (.tmp 10) rfl (w.heap.size + 1) 0 (tcells m).toArray rfl rfl (by rw [List.size_toArray]; exact ht) (by rw [List.size_toArray]; exact HI.out) (all_oneCell_toArray H1.out) ?_
  refine hK.out _ _ (.inl (HM5.out.mach 1 rfl)) (fun hU => ?_)
  clear hK K
  (try simp only [Act.put, List.setIfInBounds_toArray, List.set_cons_zero, List.set_cons_succ])
  refine AnyS.done (by kernel_rfl) ?_ _
  clear hU ht hM4 hM5
  have HB := Lib.hid (HM5.out.at 0 rfl)
  have HI5 : Hid ((Try.prog.info? 67).map (·.size) = some (tcells m).toArray.size) := HI.out.trans (by rw [List.size_toArray])
  go_wp2_with fail
  exact bodyPost_ret (v := .agg (tcells m).toArray) (results_cell_row Try.results56 _ _ (w.heap.size + 1) 67 (tcells m).toArray (0, 0) (.struct _) rfl HB.out Try.underlying67 rfl HI5.out) rfl ⟨rfl, HM5.out.below⟩
end Go.Proofs.Yteagecoiijhflaa
