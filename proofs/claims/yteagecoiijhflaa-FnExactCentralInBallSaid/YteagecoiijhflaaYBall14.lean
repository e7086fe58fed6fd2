import Derived.RangeFuncBox
import Derived.RangeFuncLeaves
import Derived.RangeFuncNested
import Derived.Shelf.Abstract
import Derived.WalkKit
import Derived.OwnWalkIn
import Derived.TacticsInMore
import Derived.LoopNIn
import Derived.LoopIn
import Derived.Maps.AppendAt
import Derived.Test.YteagecoiijhflaaYBall13
import Derived.Lib.AppendZerosOnto
import Derived.Lib.SliceRun
/- slices.Backward's iterator; inverseOf of the program. -/
namespace Go.Proofs.Yteagecoiijhflaa
open Go.RowKit
set_option linter.unusedVariables false
set_option linter.unusedSimpArgs false
attribute [local go_sem] Oper.semAt_some

/-- what has come when k rounds are over -/
def uptoB {α : Type} (f : Nat → α) (k : Nat) : List α := (List.range k).map f
theorem uptoB_succ {α : Type} (f : Nat → α) (k : Nat) : uptoB f (k + 1) = uptoB f k ++ [f k] := by simp [uptoB, List.range_succ]
theorem uptoB_length {α : Type} (f : Nat → α) (k : Nat) : (uptoB f k).length = k := by simp [uptoB]
/-- a row from behind -/
def bkw (zs : List Int) (j : Nat) : Nat × Int := (zs.length - 1 - j, zs[zs.length - 1 - j]?.getD 0)
theorem bkw_all (zs : List Int) : ((uptoB (bkw zs) zs.length).map fun p => -p.2) = zs.reverse.map fun k => -k := by
  apply List.ext_getElem
  · simp [uptoB]
  · intro i h1 h2
    have hi : i < zs.length := by simpa [uptoB] using h1
    simp only [uptoB, List.getElem_map, List.getElem_range, bkw, List.getElem_reverse]
    rw [List.getElem?_eq_getElem (by omega), Option.getD_some]

/-- what a round keeps: all below, and the box of the row -/
def KpB (n₀ Bs : Nat) (W W' : World) : Prop := Below n₀ W W' ∧ W'.heap[Bs]? = W.heap[Bs]?
theorem kpB_t {n₀ Bs : Nat} {A B C : World} (h : KpB n₀ Bs A B) (k : KpB n₀ Bs B C) : KpB n₀ Bs A C := ⟨h.1.trans k.1, k.2.trans h.2⟩
theorem kpB_b {n₀ Bs : Nat} {w : World} (hn : n₀ ≤ w.heap.size) (hB : Bs < w.heap.size) (W : World) (l : Nat) (o o' : Obj) (hl : w.heap.size ≤ l) (h : W.heap[l]? = some o) (h1 : o.isCells = false) (h2 : o.isWalk = false) : KpB n₀ Bs W (W.putObj l o') :=
  ⟨belowK_b hn W l o o' hl h h1 h2, World.putObj_heap_other (by omega)⟩

set_option maxRecDepth 100000 in
set_option maxHeartbeats 2000000 in
theorem back1_in (F : Fence) (n : Nat) (h7 : F.fn 161) (hro : F.round = none) (hn : 1 ≤ n) (l Bs n₀ b off cap : Nat) (zs : List Int) (hreach : zs.length ≤ 1000000) (hb : b < n₀) (J Jx : List (Nat × Int) → World → Prop)
    (hY : ∀ pre x W, J pre W → pre.length < zs.length → YieldAt F (n - 1) Try.prog l #[.int .i64 (x.1 : Int), .int .i64 x.2] W fun e W' =>
      (e = .returned (.bool true) ∧ J (pre ++ [x]) W' ∧ KpB n₀ Bs W W') ∨ (e = .returned (.bool false) ∧ Jx (pre ++ [x]) W'))
    (W : World) (hBs : W.cell? ⟨Bs, 0, none⟩ = some (.slice (some ⟨b, off, none⟩) zs.length cap)) (hc : ∀ j, j < zs.length → W.cell? ⟨b, off + j, none⟩ = some (.int .i64 (zs[j]?.getD 0))) (h0 : J [] W) :
    CallsIn F n Try.prog 161 #[.func (.yield l) #[] #[], .pointer (some ⟨Bs, 0, none⟩)] W fun e W' => (∃ v, e = .returned v) ∧
      ((∃ ys, ys = uptoB (bkw zs) zs.length ∧ J ys W') ∨ (∃ pre, (∃ k, k ≤ zs.length ∧ pre = uptoB (bkw zs) k) ∧ Jx pre W')) := by
  refine callsIn_of_wp Try.func161 rfl h7 ?_ hro
  simp only [Try.ntmps161, List.size_toArray, List.length_cons, List.length_nil, Nat.reduceAdd, Nat.reduceSub, Array.replicate_succ, Array.replicate_zero, List.push_toArray, List.append_toArray, List.nil_append, List.cons_append]
  have e0 : IntKind.i64.wrap ((zs.length : Int) - 1) = (zs.length : Int) - 1 := IntWalk.i64_in _ (by omega)
  gi_wp2
  gi_loopw [3] (fun i wr => ∃ (k : Nat) (z : Int), k ≤ zs.length ∧ z = (zs.length : Int) - 1 - k ∧ i = .int .i64 z ∧ J (uptoB (bkw zs) k) wr ∧ KpB n₀ Bs W wr) (fun i _ => (intOf i + 1).toNat)
  case atStart => exact ⟨0, _, Nat.zero_le _, by simp, rfl, h0, Below.refl _ _, rfl⟩
  case round =>
    obtain ⟨k, z, hk, hz, rfl, hJs, hnx⟩ := hrel
    by_cases hlt : k < zs.length
    · obtain ⟨q, rfl⟩ : ∃ q : Nat, z = (q : Int) := ⟨zs.length - 1 - k, by omega⟩
      have hq : q = zs.length - 1 - k := by omega
      have hcx : wr.cell? ⟨b, off + q, none⟩ = some (.int .i64 (zs[q]?.getD 0)) := (hnx.1.cell (p := ⟨b, off + q, none⟩) hb).trans (hc q (by omega))
      have hBw : wr.cell? ⟨Bs, 0, none⟩ = some (.slice (some ⟨b, off, none⟩) zs.length cap) := (World.cell?_of_block (w := W) (a := ⟨Bs, 0, none⟩) hnx.2).trans hBs
      obtain ⟨fn, tmps, assign, body, hy, hR⟩ := hY _ (q, zs[q]?.getD 0) wr hJs (by rw [uptoB_length]; exact hlt)
      dsimp only at hy
      have hU : uptoB (bkw zs) (k + 1) = uptoB (bkw zs) k ++ [(q, zs[q]?.getD 0)] := by rw [uptoB_succ, hq]; rfl
      have i1 : (q : Int) < (zs.length : Int) := by omega
      have i2 : (0 : Int) ≤ (q : Int) := by omega
      have e1 : IntKind.i64.wrap ((q : Int) - 1) = (q : Int) - 1 := IntWalk.i64_in _ (by omega)
      have HZ := Lib.hid hz
      clear hq hz
      gi_wp2
      refine hR.mono ?_
      rintro e W3 (⟨rfl, hJ3, hk3⟩ | ⟨rfl, hJx3⟩)
      · gi_wp2
        go_roundw
        case rel => exact ⟨k + 1, (q : Int) - 1, by omega, by have := HZ.out; omega, rfl, by rw [hU]; exact hJ3, kpB_t hnx hk3⟩
        case measure => simp [intOf] <;> omega
      · gi_wp2
        refine bodyPost_ret (results_none rfl _ _ _) rfl ?_
        exact ⟨⟨_, rfl⟩, .inr ⟨_, ⟨k + 1, by omega, hU.symm⟩, hJx3⟩⟩
    · obtain rfl : k = zs.length := by omega
      have hz' : z = -1 := by omega
      subst hz'
      gi_wp2
      go_end0
      exact ⟨⟨_, rfl⟩, .inl ⟨_, rfl, hJs⟩⟩

set_option maxRecDepth 100000 in
set_option maxHeartbeats 1000000 in
theorem back_in (F : Fence) (n : Nat) (h5 : F.fn 153) (hro : F.round = none) (a : Option Addr) (len cap : Nat) (w : World) :
    CallsIn F n Try.prog 153 #[.slice a len cap] w fun e w' => e = .returned (.func (.func 161) #[] #[.pointer (some ⟨w.heap.size, 0, none⟩)]) ∧ w' = w.alloc (.cells #[.slice a len cap] 26) := by
  refine callsIn_of_wp Try.func153 rfl h5 ?_ hro
  simp only [Try.ntmps153, List.size_toArray, List.length_cons, List.length_nil, Nat.reduceAdd, Nat.reduceSub, Array.replicate_succ, Array.replicate_zero, List.push_toArray, List.append_toArray, List.nil_append, List.cons_append]
  gi_wp2
  go_ret
  exact ⟨rfl, rfl⟩

/-- the iterator's contract, at a row of numbers that is not nil -/
theorem back_stops (F : Fence) (n : Nat) (h7 : F.fn 161) (hro : F.round = none) (hn : 1 ≤ n) (Bs n₀ b off cap : Nat) (zs : List Int) (hreach : zs.length ≤ 1000000) (w : World) (hBs : Bs < w.heap.size) (hb : b < n₀) (hn₀ : n₀ ≤ w.heap.size)
    (hc : w.cell? ⟨Bs, 0, none⟩ = some (.slice (some ⟨b, off, none⟩) zs.length cap)) (hI : ∀ j, j < zs.length → w.cell? ⟨b, off + j, none⟩ = some (.int .i64 (zs[j]?.getD 0))) :
    SeqStopsK F n Try.prog 161 #[.pointer (some ⟨Bs, 0, none⟩)] (fun x : Nat × Int => #[Value.int .i64 (x.1 : Int), Value.int .i64 x.2]) (KpB n₀ Bs) (fun ys => ys = uptoB (bkw zs) zs.length)
      (fun pre => ∃ k, k ≤ zs.length ∧ pre = uptoB (bkw zs) k) zs.length w := fun l J Jx W hW _ _ hY h0 =>
  back1_in F n h7 hro hn l Bs n₀ b off cap zs hreach hb J Jx hY W ((hW.cell (p := ⟨Bs, 0, none⟩) hBs).trans hc) (fun j hj => (hW.cell (p := ⟨b, off + j, none⟩) (by simp only; omega)).trans (hI j hj)) h0

/-- 'make([]int64, 0, n)' -/
theorem mk0I (n : Nat) (hn : n ≤ 2000000) (u : World) : (Instr.makeSlice 26 (.int .i64 0) (.int .i64 (n : Int))).run Try.prog u =
    .ok (.slice (some ⟨u.heap.size, 0, none⟩) 0 n) (u.alloc (.cells (madeCells #[.int .i64 0] n) 2)) := by
  obtain ⟨i0, hi, hz0, hz1, hz2⟩ := info_parts Try.info2
  have h := run_make (P := Try.prog) u 26 2 i0 (.int .i64 0) Try.underlying26 hi hz0 .i64 .i64 0 (n : Int) (by omega) (by omega) (by rw [hz2]; omega) (by omega)
  simpa [hz1, Value.cells] using h
theorem own0I (n : Nat) (hn : n ≤ 2000000) (u : World) : (u.alloc (.cells (madeCells #[.int .i64 0] n) 2)).ownsRow u.heap.size 2 1 (.slice (some ⟨u.heap.size, 0, none⟩) 0 n) 0 [] := by
  refine ⟨rfl, .inr ⟨u.heap.size, n, madeCells #[.int .i64 0] n, rfl, Nat.le_refl _, World.alloc_heap_new u _, Nat.zero_le _, by simp [maxLen]; omega, by simp [madeCells], by simp⟩⟩

set_option maxRecDepth 100000 in
set_option maxHeartbeats 2000000 in
theorem inverseOf_in (F : Fence) (n : Nat) (h3 : F.fn 138) (h4 : F.fn 153) (h5 : F.fn 161) (hro : F.round = none) (hn : 3 ≤ n) (b off cap : Nat) (g : Wd) (hl : g.length ≤ 1000) (hg : ∀ k ∈ g, -1000 ≤ k ∧ k ≤ 1000) (w : World)
    (hb : b < w.heap.size) (hc : ∀ j, j < g.length → w.cell? ⟨b, off + j, none⟩ = some (.int .i64 (g[j]?.getD 0))) :
    CallsIn F n Try.prog 138 #[.slice (some ⟨b, off, none⟩) g.length cap] w fun e W' => ∃ v, e = .returned v ∧ OwnI W' w.heap.size v (g.reverse.map fun k => -k) ∧ Below w.heap.size w W' := by
  have h1 : 1 ≤ n := by omega
  obtain ⟨i0, hi, hz0, hz1, hz2⟩ := info_parts Try.info2
  have hmk := mk0I g.length (by omega)
  refine callsIn_of_wp_marks Try.func138 rfl h3 ?_ hro
  simp only [Try.ntmps138, List.size_toArray, List.length_cons, List.length_nil, Nat.reduceAdd, Nat.reduceSub, Array.replicate_succ, Array.replicate_zero, List.push_toArray, List.append_toArray, List.nil_append, List.cons_append]
  gi_wp2_with (gi_at_call 153; refine (back_in F (n - 1) h4 hro _ _ _ _).mono ?_; rintro e w' ⟨rfl, rfl⟩)
  have hmb : Below w.heap.size w (w.alloc (.cells (madeCells #[.int .i64 0] g.length) 2)) := (Below.refl w.heap.size w).alloc (Nat.le_refl _) (.cells (madeCells #[.int .i64 0] g.length) 2)
  have hr0 := own0I g.length (by omega) w
  have hr1 := (hr0.alloc (.cells #[.slice (some ⟨w.heap.size, 0, none⟩) 0 g.length] 26)).alloc (.cells #[.slice (some ⟨b, off, none⟩) g.length cap] 26)
  have bO := (Boxed.new (w.alloc (.cells (madeCells #[.int .i64 0] g.length) 2)) 26 (.slice (some ⟨w.heap.size, 0, none⟩) 0 g.length)).alloc (.cells #[.slice (some ⟨b, off, none⟩) g.length cap] 26)
  have bS := Boxed.new ((w.alloc (.cells (madeCells #[.int .i64 0] g.length) 2)).alloc (.cells #[.slice (some ⟨w.heap.size, 0, none⟩) 0 g.length] 26)) 26 (.slice (some ⟨b, off, none⟩) g.length cap)
  have hB0 : Below w.heap.size w (((w.alloc (.cells (madeCells #[.int .i64 0] g.length) 2)).alloc (.cells #[.slice (some ⟨w.heap.size, 0, none⟩) 0 g.length] 26)).alloc (.cells #[.slice (some ⟨b, off, none⟩) g.length cap] 26)) := (hmb.alloc (by simp) _).alloc (by simp; omega) _
  rw [World.size_alloc] at bO
  rw [World.size_alloc, World.size_alloc] at bS
  obtain ⟨W0, hW0⟩ : ∃ W0, W0 = (((w.alloc (.cells (madeCells #[.int .i64 0] g.length) 2)).alloc (.cells #[.slice (some ⟨w.heap.size, 0, none⟩) 0 g.length] 26)).alloc (.cells #[.slice (some ⟨b, off, none⟩) g.length cap] 26)) := ⟨_, rfl⟩
  have hs0 : W0.heap.size = w.heap.size + 1 + 1 + 1 := by rw [hW0]; simp
  rw [← hW0] at bO bS hr1 hB0 ⊢
  clear hW0 hmb hr0 hmk
  refine wpIn_rangeFunc_ownG hro h1 (gf := 161) (lb := #[.pointer (some ⟨w.heap.size + 1 + 1, 0, none⟩)]) rfl h5 (enters_of Try.func161 (by kernel_rfl) rfl)
    (back_stops F (n - 1) h5 hro (by omega) (w.heap.size + 1 + 1) w.heap.size b off cap g (by omega) W0 (by omega) hb (by omega) bS.cell (fun j hj => (hB0.cell (p := ⟨b, off + j, none⟩) hb).trans (hc j hj))) kpB_t (kpB_b (by omega) (by omega)) (Below.refl _ _) (fun _ => rfl)
    (fun pre W => (∃ v, Boxed W (w.heap.size + 1) 26 v ∧ W.ownsRow w.heap.size 2 1 v pre.length (i64s (pre.map fun p => wrap64 (-p.2))) ∧ True) ∧ (Boxed W (w.heap.size + 1 + 1) 26 (.slice (some ⟨b, off, none⟩) g.length cap) ∧ Below w.heap.size w W))
    (fun _ _ _ => False)
    (OwnFrom.and (Own.from (holdsRow_own w.heap.size (w.heap.size + 1) 26 2 1 (fun pre : List (Nat × Int) => pre.length) (fun pre => i64s (pre.map fun p => wrap64 (-p.2))) (fun _ _ => True)) _) (OwnFrom.and (Own.from (boxed_own _ _ _) _) (ownFrom_below (Nat.le_refl _) (by omega))))
    (fun _ _ _ _ _ hs _ _ => hs)
    ⟨⟨_, bO, hr1, trivial⟩, bS, hB0⟩
    (fun x => { tmps := #[.slice (some ⟨b, off, none⟩) g.length cap, undef, .slice none 0 0, .pointer (some ⟨w.heap.size + 1, 0, none⟩), undef, .int .i64 x.2, .slice (some ⟨b, off, none⟩) g.length cap, .int .i64 (g.length : Int), .slice (some ⟨w.heap.size, 0, none⟩) 0 g.length, .slice (some ⟨b, off, none⟩) g.length cap, .func (.func 161) #[] #[.pointer (some ⟨w.heap.size + 1 + 1, 0, none⟩)], .int .i64 (x.1 : Int), .int .i64 x.2, undef, undef, undef, undef, undef, undef], defers := [] }) ?assign ?body ?done ?stop
  case assign =>
    intro l x W K hK
    gi_wp2
    exact hK
  case body =>
    rintro l pre x W ⟨⟨v, hv, hrow, -⟩, hS, hB⟩ hlt
    have hc := hv.cell
    gi_wp2_with (gi_at_builtin; refine wpListIn_append_own _ rfl _ _ 26 rfl w.heap.size 2 i0 (.int .i64 0) 1 8 Try.underlying26 hi hz0 hz1 hz2 rfl (by decide) _ _ _ rfl (hrow.alloc _) ⟨W.heap.size, 0, none⟩ 1 1 [.int .i64 (wrap64 (-x.2))] rfl rfl (cell_one_new _ _ _) (by simp [Value.oneCell']) (by simp [maxLen]; omega) (by omega) (by have := hB.size; simp; omega) ?_; intro v' w1 hown' hgrow _; obtain ⟨g', cap', rfl⟩ := ownsRow_succ hown'; obtain ⟨hv1, hv2, hr2, hk2, hb2⟩ := hv.appended (by decide) hrow hB.size (by omega) hown' hgrow; have hS1 := ((hS.alloc _).kept hgrow (hS.not_row (by decide) hrow)).other (B' := w.heap.size + 1) (by omega) (.slice (some ⟨g', 0, none⟩) (pre.length + 1) cap'); have hc1 := hv1.cell; have hf1 := hv1.frozen)
    exact ⟨hk2.from _, ⟨hb2, hS1.trans hS.symm⟩, ⟨_, hv2, by simpa [i64s] using hr2, trivial⟩, hS1, hB.trans hb2⟩
  case done =>
    rintro D ys W hD rfl ⟨⟨v, hv, hrow, -⟩, hS, hB⟩ hK
    have hc := hv.cell
    gi_wp2
    refine ⟨by simp, .inl ⟨_, _, rfl, run_takeDeferred hK, ?_⟩⟩
    have hfin : (uptoB (bkw g) g.length).map (fun p => wrap64 (-p.2)) = g.reverse.map fun k => -k := by
      rw [← bkw_all]
      refine List.map_congr_left fun p hp => ?_
      obtain ⟨j, hj, rfl⟩ := List.mem_map.1 hp
      have hj' : j < g.length := by simpa using hj
      have : g[g.length - 1 - j]?.getD 0 ∈ g := by rw [List.getElem?_eq_getElem (by omega), Option.getD_some]; exact List.getElem_mem _
      have := hg _ this
      simp only [bkw]
      unfold wrap64; omega
    refine ⟨_, results_tmp rfl _ _ _, v, rfl, ?_, hB.trans (belowK_b (w := w) (Nat.le_refl _) W D _ _ (by omega) hK rfl rfl)⟩
    have h := ownsRow_putObj hrow (.deferred none) hK rfl
    rw [hfin] at h
    show World.ownsRow _ _ _ _ _ _ _
    rw [uptoB_length] at h
    simpa using h
  case stop =>
    rintro D c pre W _ _ h _
    exact h.elim
theorem inverseOf_any (a : Option Addr) (c : Nat) (g : Wd) (h0 : 0 < g.length) (hl : g.length ≤ 1000) (hg : ∀ k ∈ g, -1000 ≤ k ∧ k ≤ 1000) (w : World) (hI : IntsAt w a g) :
    Calls Try.prog 138 #[.slice a g.length c] w fun e W' => ∃ v, e = .returned v ∧ OwnI W' w.heap.size v (g.reverse.map fun k => -k) ∧ Below w.heap.size w W' := by
  obtain ⟨b, off, rfl, hc⟩ := hI 0 h0
  refine (callsIn_wide (n := 3)).1 (inverseOf_in Fence.wide 3 trivial trivial trivial rfl (Nat.le_refl _) b off c g hl hg w (World.block_lt_of_cell? w _ hc) (fun j hj => ?_))
  obtain ⟨b', off', e, hc'⟩ := hI j hj
  injection e with e; injection e with e1 e2; subst e1 e2
  exact hc'
end Go.Proofs.Yteagecoiijhflaa

/- slices.Grow of nothing, slices.Concat, areEqual of the program. -/
namespace Go.Proofs.Yteagecoiijhflaa
open Go.RowKit
set_option linter.unusedVariables false
set_option linter.unusedSimpArgs false

set_option maxRecDepth 100000 in
set_option maxHeartbeats 2000000 in
theorem grow0_any (n : Nat) (hn : n ≤ 1000000) (w : World) :
    Calls Try.prog 149 #[.slice none 0 0, .int .i64 (n : Int)] w fun e w' => ∃ v, e = .returned v ∧ Below w.heap.size w w' ∧ OwnI w' w.heap.size v [] := by
  obtain ⟨i0, hi0, hz0, hs0, hb0⟩ := info_parts Try.info2
  have h1 : ¬ ((n : Int) < 0) := by omega
  have h3 : wrap64 (n : Int) = (n : Int) := by unfold wrap64; omega
  by_cases h0 : n = 0
  · subst h0
    go_enter Try.func149, Try.ntmps149
    go_wp2
    go_ret
    exact ⟨_, rfl, Below.refl _ _, OwnI.nil _ _⟩
  · have h4 : (n : Int) > 0 := by omega
    have hold : (Builtin.firstCells i0.size 0 (.slice none 0 0)).run Try.prog w.drew = .ok ([] : List Value).toArray w.drew := run_firstCells_none w.drew i0.size 0 0 0
    have hrz : ∀ ty, (Builtin.append_ #[26, 3] ty #[.slice none 0 0, .int .i64 (n : Int)]).run Try.prog w =
        .ok (.slice (some ⟨w.heap.size, 0, none⟩) n (grownCap w n 0 2)) (w.drew.alloc (.cells (Builtin.zeroCells #[.int .i64 0] n ++ Builtin.zeroCells #[.int .i64 0] (grownCap w n 0 2 - n)) 2)) := fun ty => by
      have h := Lib.run_append_grow_zeros w 26 3 ty 2 i0 _ .i64 .i64 Try.underlying26 Try.underlying3 hi0 hz0 none 0 0 [] hold n (by omega) (by omega) (by omega) (by omega)
        (by rw [hb0]; omega)
        (growslice_fits (by omega) (by rw [hb0]; omega))
      simpa [Value.cells] using h
    have hGn : n ≤ grownCap w n 0 2 := grownCap_ge w _ _ _
    have hGm := grownCap_le_maxLen w n 0 2 (by unfold maxLen; omega)
    obtain ⟨G, hG⟩ : ∃ G, G = grownCap w n 0 2 := ⟨_, rfl⟩
    rw [← hG] at hrz hGn hGm
    have hG63 : G ≤ 9223372036854775807 := by unfold maxLen at hGm; omega
    have hsz : (Builtin.zeroCells #[.int .i64 0] n ++ Builtin.zeroCells #[.int .i64 0] (G - n)).size = G * 1 := by simp [Builtin.zeroCells]; omega
    have HO : Hid (OwnI (w.drew.alloc (.cells (Builtin.zeroCells #[.int .i64 0] n ++ Builtin.zeroCells #[.int .i64 0] (G - n)) 2)) w.heap.size (.slice (some ⟨w.heap.size, 0, none⟩) 0 G) []) :=
      ⟨rfl, .inr ⟨w.heap.size, G, _, rfl, Nat.le_refl _, World.alloc_heap_new w.drew _, Nat.zero_le _, hGm, hsz, by simp [i64s]⟩⟩
    have HB : Hid (Below w.heap.size w (w.drew.alloc (.cells (Builtin.zeroCells #[.int .i64 0] n ++ Builtin.zeroCells #[.int .i64 0] (G - n)) 2))) := by
      have hd : Below w.heap.size w w.drew := ⟨rfl, rfl, rfl, Nat.le_refl _, fun _ _ => rfl⟩
      exact hd.alloc (Nat.le_refl _) _
    clear hold hG hsz hGm
    go_enter Try.func149, Try.ntmps149
    go_wp2_with (at_builtin; refine Lib.wpList_append_run _ rfl _ _ _ _ rfl _ _ rfl rfl _ _ (hrz _) ?_)
    go_ret
    exact ⟨_, rfl, HB.out, HO.out⟩

/-- a slice of rows, each somebody's own -/
def SlO (w : World) (v : Value) (rows : List Wd) : Prop := ∃ b c, v = .slice (some ⟨b, 0, none⟩) rows.length c ∧ ∀ i, i < rows.length → ∃ r B, w.cell? ⟨b, i, none⟩ = some r ∧ OwnI w B r (rows[i]?.getD [])
theorem flat_succ (rows : List Wd) {i : Nat} (h : i < rows.length) : (rows.take (i + 1)).flatten = (rows.take i).flatten ++ rows[i]?.getD [] := by
  rw [List.take_succ_eq_append_getElem h, List.flatten_append, List.getElem?_eq_getElem h]; simp
theorem flat_len (rows : List Wd) (i : Nat) : (rows.take i).flatten.length = sumLen rows i := by
  rw [List.length_flatten]; rfl

set_option maxRecDepth 100000 in
set_option maxHeartbeats 2000000 in
theorem concat_any (v : Value) (rows : List Wd) (hn : rows.length ≤ 1000) (hl : sumLen rows rows.length ≤ 100000) (w : World) (hS : SlO w v rows) :
    Calls Try.prog 120 #[v] w fun e w' => ∃ v', e = .returned v' ∧ Below w.heap.size w w' ∧ OwnI w' w.heap.size v' rows.flatten := by
  obtain ⟨i0, hi0, hz0, hs0, hb0⟩ := info_parts Try.info2
  have HFL : Hid (rows.flatten = (rows.take rows.length).flatten) := by show _ = _; rw [List.take_length]
  have HGR := Lib.hid (grow0_any (sumLen rows rows.length) (by omega) w)
  obtain ⟨b, c, rfl, hc⟩ := hS
  have HC := Lib.hid hc
  clear hc
  go_enter Try.func120, Try.ntmps120
  go_wp2
  go_loopw [3, 11] (fun s iv wr => ∃ i : Nat, i ≤ rows.length ∧ iv = .int .i64 (i : Int) ∧ s = .int .i64 (sumLen rows i : Int) ∧ wr = w) (fun _ i _ => rows.length - (intOf i).toNat)
  case atStart => exact ⟨0, Nat.zero_le _, rfl, rfl, rfl⟩
  case round =>
    obtain ⟨i, hi, rfl, rfl, rfl⟩ := hrel
    have hsi := sumLen_le rows i
    have ei : IntKind.i64.wrap ((i : Int) + 1) = (i : Int) + 1 := IntWalk.i64_in _ (by omega)
    by_cases hli : i < rows.length
    · obtain ⟨r, B2, cr, hO⟩ := HC.out i hli
      obtain ⟨ar, cr', rfl, -⟩ := hO.form
      have i1 : (0 : Int) ≤ (i : Int) := by omega
      have i2 : (i : Int) < (rows.length : Int) := by omega
      have hss := sumLen_succ rows i hli
      have hs2 := sumLen_le rows (i + 1)
      generalize (rows[i]?.getD []).length = ln at *
      have es : IntKind.i64.wrap ((sumLen rows i : Int) + (ln : Int)) = (sumLen rows i : Int) + (ln : Int) := IntWalk.i64_in _ (by omega)
      have j1 : ¬ (((sumLen rows i : Int) + (ln : Int)) < 0) := by omega
      have HSS := Lib.hid hss
      clear hO hss
      go_wp2
      go_roundw
      case rel => exact ⟨i + 1, by omega, by go_num, by rw [HSS.out]; go_num, trivial⟩
      case measure => simp [intOf] <;> omega
    · have hi' : i = rows.length := by omega
      subst hi'
      have j2 : ¬ ((rows.length : Int) < (rows.length : Int)) := by omega
      obtain ⟨wo, rfl⟩ : ∃ wo, wo = wr := ⟨_, rfl⟩
      go_wp2_with fail
      refine HGR.out.mono ?_
      rintro e w1 ⟨v1, rfl, hb1, hO1⟩
      have hM1 := (Mm.start wo).callOwn hb1 hO1 (by simp [i64s])
      clear HGR hb1 hO1 ei
      go_wp2_with fail
      go_loopw [6, 27] (fun o iv wm => ∃ i : Nat, i ≤ rows.length ∧ iv = .int .i64 (i : Int) ∧ Mm wo.heap.size wo wm [] [(o, 2, i64s (rows.take i).flatten)]) (fun _ i _ => rows.length - (intOf i).toNat)
      case atStart => exact ⟨0, Nat.zero_le _, rfl, hM1⟩
      case round =>
        clear hM1
        obtain ⟨i, hi, rfl, hM⟩ := hrel
        have hsi := sumLen_le rows i
        have hfl := flat_len rows i
        have ei : IntKind.i64.wrap ((i : Int) + 1) = (i : Int) + 1 := IntWalk.i64_in _ (by omega)
        by_cases hli : i < rows.length
        · obtain ⟨r, B2, cr, hO⟩ := HC.out i hli
          have cr := (hM.below.cell (World.block_lt_of_cell? _ _ cr)).trans cr
          have HO := Lib.hid (hO.below hM.below)
          obtain ⟨ar, cr', rfl, -⟩ := hO.form
          have i1 : (0 : Int) ≤ (i : Int) := by omega
          have i2 : (i : Int) < (rows.length : Int) := by omega
          have hss := sumLen_succ rows i hli
          have hs2 := sumLen_le rows (i + 1)
          have HFS := Lib.hid (flat_succ rows hli)
          have hgl : (rows[i]?.getD []).length ≤ 100000 := by omega
          generalize rows[i]?.getD [] = g at *
          generalize (rows.take i).flatten = fl at *
          have hfl2 : (i64s fl).length ≤ 1000000 := by simp only [i64s, List.length_map]; omega
          clear hO hss hfl
          go_wp2_with (at_builtin; refine Mm.appendRow rfl (.tmp 31) (.tmp 32) 26 rfl hM 0 rfl Try.underlying26 hi0 hz0 hs0 hb0 rfl rfl rfl (n := g.length) (by simp [i64s]) HO.out (fun y hy => by obtain ⟨x, -, rfl⟩ := List.mem_map.1 hy; rfl) hfl2 (by simp [i64s]; omega) (by omega) ?_)
          intro v' w3 hM3
          have HM3 : Hid (Mm wo.heap.size wo w3 [] [(v', 2, i64s (rows.take (i + 1)).flatten)]) := by
            show Mm _ _ _ _ _; rw [HFS.out]; simpa [i64s] using hM3
          clear hM hM3 HO
          go_wp2_with fail
          go_roundw
          case rel => exact ⟨i + 1, by omega, by go_num, HM3.out⟩
          case measure => simp [intOf] <;> omega
        · have hi' : i = rows.length := by omega
          subst hi'
          have HO := Lib.hid (OwnI.of_row (hM.own _ (List.mem_cons_self ..)))
          have hb := hM.below
          clear hM
          go_wp2_with fail
          go_ret
          exact ⟨_, rfl, hb, by rw [HFL.out]; exact HO.out⟩

theorem slO_two {w : World} (r1 r2 : Value) (g1 g2 : Wd) (B1 B2 : Nat) (h1 : OwnI w B1 r1 g1) (h2 : OwnI w B2 r2 g2) :
    SlO (w.alloc (.cells #[r1, r2] 26)) (.slice (some ⟨w.heap.size, 0, none⟩) 2 2) [g1, g2] := by
  have hb : Below w.heap.size w (w.alloc (.cells #[r1, r2] 26)) := (Below.refl _ w).alloc (Nat.le_refl _) _
  have hz := Blk.new w #[r1, r2] 26
  refine ⟨_, _, rfl, fun i hi => ?_⟩
  match i, hi with
  | 0, _ => exact ⟨r1, B1, hz.cell' (i := 0) rfl, h1.below hb⟩
  | 1, _ => exact ⟨r2, B2, hz.cell' (i := 1) rfl, h2.below hb⟩
theorem slO_three {w : World} (r1 r2 r3 : Value) (g1 g2 g3 : Wd) (B1 B2 B3 : Nat) (h1 : OwnI w B1 r1 g1) (h2 : OwnI w B2 r2 g2) (h3 : OwnI w B3 r3 g3) :
    SlO (w.alloc (.cells #[r1, r2, r3] 26)) (.slice (some ⟨w.heap.size, 0, none⟩) 3 3) [g1, g2, g3] := by
  have hb : Below w.heap.size w (w.alloc (.cells #[r1, r2, r3] 26)) := (Below.refl _ w).alloc (Nat.le_refl _) _
  have hz := Blk.new w #[r1, r2, r3] 26
  refine ⟨_, _, rfl, fun i hi => ?_⟩
  match i, hi with
  | 0, _ => exact ⟨r1, B1, hz.cell' (i := 0) rfl, h1.below hb⟩
  | 1, _ => exact ⟨r2, B2, hz.cell' (i := 1) rfl, h2.below hb⟩
  | 2, _ => exact ⟨r3, B3, hz.cell' (i := 2) rfl, h3.below hb⟩

def invW (g : Wd) : Wd := g.reverse.map fun k => -k
theorem invW_len (g : Wd) : (invW g).length = g.length := by simp [invW]
theorem invW_gw {m : Mch} {g : Wd} (h : GW m g) : GW m (invW g) := fun k hk => by
  simp only [invW, List.mem_map, List.mem_reverse] at hk
  obtain ⟨q, hq, rfl⟩ := hk
  have := h q hq
  omega
theorem gw_app {m : Mch} {f g : Wd} (h : GW m f) (h' : GW m g) : GW m (f ++ g) := fun k hk => by
  rcases List.mem_append.1 hk with hk | hk
  · exact h k hk
  · exact h' k hk

set_option maxRecDepth 100000 in
set_option maxHeartbeats 2000000 in
theorem areEqual_any (G : Nat) (m : Mch) (hwf : m.Wf) (hok : m.Ok) (u v : Value) (f g : Wd) (B1 B2 : Nat) (hf : GW m f) (hg : GW m g) (h0 : 0 < g.length) (hl : f.length + g.length ≤ 900) (w : World) (hG : GrpR w G m) (hu : OwnI w B1 u f) (hv : OwnI w B2 v g) :
    Calls Try.prog 108 #[.pointer (some ⟨G, 0, none⟩), u, v] w (Ret (.tuple #[.bool (trvR m (f ++ invW g)).1, .int .i64 (trvR m (f ++ invW g)).2]) w) := by
  obtain ⟨a, c, rfl, -⟩ := id hu.form
  obtain ⟨a2, c2, rfl, hI2⟩ := id hv.form
  have hs5 := hok.s_le
  have HI := Lib.hid (inverseOf_any a2 c2 g h0 (by omega) (fun k hk => by have := hg k hk; omega) w hI2)
  have HU := Lib.hid hu
  have HG := Lib.hid hG
  have HGW := Lib.hid (gw_app hf (invW_gw hg))
  have hil := invW_len g
  have hal : (f ++ invW g).length ≤ 900 := by rw [List.length_append]; omega
  clear hu hv hI2 hG hf hg
  go_enter Try.func108, Try.ntmps108
  go_wp2_with fail
  refine HI.out.mono ?_
  rintro e w1 ⟨v1, rfl, hO1, hb1⟩
  change OwnI w1 w.heap.size v1 (invW g) at hO1
  obtain ⟨a1, c1, rfl, -⟩ := id hO1.form
  have HS := Lib.hid (concat_any _ _ (by simp) (by simp [sumLen]; omega) _ (slO_two (w := w1) (.slice a f.length c) (.slice a1 (invW g).length c1) f (invW g) _ _ (HU.out.below hb1) hO1))
  have hba : Below w.heap.size w (w1.alloc (.cells #[.slice a f.length c, .slice a1 (invW g).length c1] 26)) := hb1.alloc hb1.size _
  have HBA := Lib.hid hba
  clear HI hO1 hba hil
  go_wp2_with fail
  refine HS.out.mono ?_
  rintro e w2 ⟨v2, rfl, hb2, hO2⟩
  have e2 : [f, invW g].flatten = f ++ invW g := by simp
  rw [e2] at hO2
  have HB2 := Lib.hid (HBA.out.trans (hb2.mono HBA.out.size))
  obtain ⟨a3, c3, rfl, hI3⟩ := hO2.form
  have HT := Lib.hid (isTrivial_any G m hwf hok a3 _ c3 HGW.out (by omega) w2 (HG.out.keep HB2.out) hI3)
  clear HS hb2 hO2 hI3 e2 hb1 hal
  generalize trvR m (f ++ invW g) = R at *
  generalize f ++ invW g = h at *
  go_wp2_with fail
  refine HT.out.mono ?_
  rintro e w3 ⟨rfl, hb3⟩
  go_wp2_with fail
  go_ret2
  exact ⟨rfl, HB2.out.trans (hb3.mono HB2.out.size)⟩
end Go.Proofs.Yteagecoiijhflaa

/- The generators of the reference. -/
namespace Go.Proofs.Yteagecoiijhflaa
open Go.RowKit
set_option linter.unusedVariables false
set_option linter.unusedSimpArgs false

/-- the generators of the first states, or the error -/
def genR (m : Mch) : Nat → Except Int (List Int)
  | 0 => .ok []
  | i + 1 => match genR m i with
    | .error c => .error c
    | .ok xs => if trivB m i = true ∨ m.tbl.fin i ≠ i then .ok xs else
      if (trvR m [(i : Int) + 1, (i : Int) + 1]).2 ≠ 0 then .error (trvR m [(i : Int) + 1, (i : Int) + 1]).2 else
      .ok (xs ++ [(i : Int) + 1] ++ if (trvR m [(i : Int) + 1, (i : Int) + 1]).1 = true then [] else [-((i : Int) + 1)])
def genI (m : Mch) : List Int × Int := match genR m m.s with
  | .error c => ([], c)
  | .ok xs => (xs, 0)
theorem genR_len (m : Mch) : ∀ (i : Nat) (xs : List Int), genR m i = .ok xs → xs.length ≤ 2 * i
  | 0, xs, h => by simp only [genR] at h; injection h with h; subst h; simp
  | i + 1, xs, h => by
    simp only [genR] at h
    split at h
    · cases h
    · rename_i ys hy
      have := genR_len m i ys hy
      split at h
      · injection h with h; subst h; omega
      · split at h
        · cases h
        · injection h with h; subst h
          split <;> simp <;> omega
theorem genR_mem (m : Mch) : ∀ (i : Nat) (xs : List Int), genR m i = .ok xs → ∀ k ∈ xs, k ≠ 0 ∧ -(i : Int) ≤ k ∧ k ≤ i
  | 0, xs, h => by simp only [genR] at h; injection h with h; subst h; simp
  | i + 1, xs, h => by
    simp only [genR] at h
    split at h
    · cases h
    · rename_i ys hy
      have := genR_mem m i ys hy
      split at h
      · injection h with h; subst h
        intro k hk; have := this k hk; omega
      · split at h
        · cases h
        · injection h with h; subst h
          intro k hk
          simp only [List.mem_append, List.mem_singleton] at hk
          rcases hk with (hk | rfl) | hk
          · have := this k hk; omega
          · omega
          · split at hk
            · cases hk
            · simp only [List.mem_singleton] at hk; subst hk; omega
theorem genR_err {m : Mch} {c : Int} {i : Nat} (h : genR m i = .error c) : ∀ j, i ≤ j → genR m j = .error c
  | 0, hj => by obtain rfl : i = 0 := by omega
                exact h
  | j + 1, hj => by
    by_cases e : i = j + 1
    · subst e; exact h
    · rw [genR, genR_err h j (by omega)]
theorem genR_skip {m : Mch} {i : Nat} {xs : List Int} (h : genR m i = .ok xs) (hc : trivB m i = true ∨ m.tbl.fin i ≠ i) : genR m (i + 1) = .ok xs := by
  rw [genR, h]; simp only; rw [if_pos hc]
theorem genR_bad {m : Mch} {i : Nat} {xs : List Int} (h : genR m i = .ok xs) (h1 : trivB m i = false) (h2 : m.tbl.fin i = i) (hc : (trvR m [(i : Int) + 1, (i : Int) + 1]).2 ≠ 0) : genR m (i + 1) = .error (trvR m [(i : Int) + 1, (i : Int) + 1]).2 := by
  rw [genR, h]; simp only; rw [if_neg (by rw [h1, h2]; simp), if_pos hc]
theorem genR_ok {m : Mch} {i : Nat} {xs : List Int} (h : genR m i = .ok xs) (h1 : trivB m i = false) (h2 : m.tbl.fin i = i) (hc : (trvR m [(i : Int) + 1, (i : Int) + 1]).2 = 0) :
    genR m (i + 1) = .ok (xs ++ [(i : Int) + 1] ++ if (trvR m [(i : Int) + 1, (i : Int) + 1]).1 = true then [] else [-((i : Int) + 1)]) := by
  rw [genR, h]; simp only; rw [if_neg (by rw [h1, h2]; simp), if_neg (by simpa using hc)]
theorem genI_len (m : Mch) (hs : m.s ≤ 16) : (genI m).1.length ≤ 32 := by
  unfold genI
  split
  · simp
  · rename_i xs hx; have := genR_len m _ _ hx; show xs.length ≤ 32; omega
theorem genI_gw (m : Mch) : GW m (genI m).1 := by
  unfold genI
  split
  · intro k hk; cases hk
  · rename_i xs hx; exact genR_mem m _ _ hx
theorem gw_two {m : Mch} {i : Nat} (h : i < m.s) : GW m [(i : Int) + 1, (i : Int) + 1] := fun k hk => by
  simp only [List.mem_cons, List.not_mem_nil, or_false, or_self] at hk
  subst hk; omega
theorem ints_two (w : World) (x y : Int) : IntsAt (w.alloc (.cells #[.int .i64 x, .int .i64 y] 2)) (some ⟨w.heap.size, 0, none⟩) [x, y] := fun i hi => by
  have hb := Blk.new w #[.int .i64 x, .int .i64 y] 2
  match i, hi with
  | 0, _ => exact ⟨w.heap.size, 0, rfl, hb.cell' (i := 0) rfl⟩
  | 1, _ => exact ⟨w.heap.size, 0, rfl, hb.cell' (i := 1) rfl⟩

theorem act5 (A : Act) (i1 i2 i3 i4 i5 : Nat) : A = { tmps := ((((A.tmps.setIfInBounds i1 (A.tmps.getD i1 undef)).setIfInBounds i2 (A.tmps.getD i2 undef)).setIfInBounds i3 (A.tmps.getD i3 undef)).setIfInBounds i4 (A.tmps.getD i4 undef)).setIfInBounds i5 (A.tmps.getD i5 undef), defers := A.defers } := by
  simp only [set_self]
/-- the region that takes the classes and the trivial states: which of its operations are done, which may come -/
def stG (f1 f3 f4 f5 f6 f7 f8 : Bool) : Bool := (!f3 || f1) && (!f7 || (f3 && f5 && f6)) && (!f8 || f7)
def prG (f1 f3 f4 f5 f6 f7 f8 : Bool) (i : Nat) : Bool :=
  (i == 1 && !f1) || (i == 3 && f1 && !f3) || (i == 4 && !f4) || (i == 5 && !f5) || (i == 6 && !f6) || (i == 7 && f3 && f5 && f6 && !f7) || (i == 8 && f7 && !f8)
def gG (f4 : Bool) (x : Value) : List (Value × TypeId × List Value) := if f4 = true then [(x, 2, [])] else []
def z16a : List Value := [.int .i64 0, .int .i64 0, .int .i64 0, .int .i64 0, .int .i64 0, .int .i64 0, .int .i64 0, .int .i64 0, .int .i64 0, .int .i64 0, .int .i64 0, .int .i64 0, .int .i64 0, .int .i64 0, .int .i64 0, .int .i64 0]
def z16b : List Value := [.bool false, .bool false, .bool false, .bool false, .bool false, .bool false, .bool false, .bool false, .bool false, .bool false, .bool false, .bool false, .bool false, .bool false, .bool false, .bool false]
theorem info64 : (Try.prog.info? 64).map (·.size) = some 16 := by kernel_rfl
theorem info65 : (Try.prog.info? 65).map (·.size) = some 16 := by kernel_rfl
theorem bls_one (f : Nat → Bool) : ∀ v ∈ bls f, v.oneCell' = true := fun v hv => by simp only [bls, List.mem_map] at hv; obtain ⟨z, _, rfl⟩ := hv; rfl
theorem bls_len (f : Nat → Bool) : (bls f).length = 16 := by simp [bls]

set_option maxRecDepth 100000 in
set_option maxHeartbeats 4000000 in
theorem l10Generators_any (m : Mch) (hwf : m.Wf) (hok : m.Ok) (w : World) :
    Calls Try.prog 65 #[.agg m.cells.toArray] w (RetI (genI m).1 (genI m).2 w) := by
  obtain ⟨i0, hi0, hz0, hz1, hz2⟩ := info_parts Try.info2
  have hs16 := hok.s_le
  have hM0 := (Mm.start w).alloc m.cells.toArray 29
  have HMX := Lib.hid (show Try.prog.follows .mixedOrders = true by kernel_rfl)
  have HIM := Lib.hid (mach_info hwf)
  have HOK := Lib.hid hok
  have HD : Hid (genI m = match genR m m.s with
    | .error c => ([], c)
    | .ok xs => (xs, 0)) := rfl
  go_enter Try.func65, Try.ntmps65
  go_wp2_with fail
  obtain ⟨Lo, hLo⟩ : ∃ Lo, Lo = [(w.heap.size, m.cells, 29)] := ⟨_, rfl⟩
  have HLO := Lib.hid hLo
  have hM0 : Mm w.heap.size w (w.alloc (.cells m.cells.toArray 29)).drew [(w.heap.size, m.cells, 29)] [] := hM0.drew
  rw [← hLo] at hM0
  have HPB : Hid (∀ W G (f5 f6 : Bool) x5 x6, Mm w.heap.size w W (ext f6 x6 (ext f5 x5 Lo)) G → MAt W w.heap.size 0 m) := fun W G f5 f6 x5 x6 h => (h.blk (w.heap.size, m.cells, 29) (ext_mem (ext_mem (by rw [HLO.out]; simp)))).2.all
  refine region_S (fun W => MAt W w.heap.size 0 m) [] 10 rfl HMX.out (HPB.out _ _ false false (0, [], 0) (0, [], 0) hM0) (fun hU => ?_)
  obtain ⟨W, hW⟩ : ∃ W, W = (w.alloc (.cells m.cells.toArray 29)).drew := ⟨_, rfl⟩
  rw [← hW] at hU hM0 ⊢
  clear hW hLo
  (refine AnyS.takeS (i := 0) rfl (by kernel_rfl) (by kernel_rfl) (by kernel_rfl) (by rfl) (by kernel_rfl) (by kernel_rfl) (fun _ _ _ h => h) (by rfl) (fun W hW => run_ld Try.underlying29 rfl HIM.out (.tmp 1) rfl rfl hW) hU (fun hU => ?_); (try simp only [Act.put, List.setIfInBounds_toArray, List.set_cons_zero, List.set_cons_succ]))
  (refine AnyS.takeS (i := 2) rfl (by kernel_rfl) (by kernel_rfl) (by kernel_rfl) (by rfl) (by kernel_rfl) (by kernel_rfl) (fun _ _ _ h => h) (by rfl) (fun W hW => run_ld Try.underlying29 rfl HIM.out (.tmp 1) rfl rfl hW) hU (fun hU => ?_); (try simp only [Act.put, List.setIfInBounds_toArray, List.set_cons_zero, List.set_cons_succ]))
  have HCL : Hid (∀ i, i < m.s → (fun q => if q < m.s then m.tbl.fin q else 0) i = m.tbl.fin i) := fun i hi => if_pos hi
  have HCA := Lib.hid (l01Classes_any m hwf hok)
  have HTA := Lib.hid (l01Trivial_any m hwf hok)
  generalize (fun q => if q < m.s then m.tbl.fin q else 0) = cl at *
  have H64 : Hid ((Try.prog.info? 64).map (·.size) = some (nvs 16 cl).length) := by show _ = _; rw [nvs_len]; exact info64
  have H65 : Hid ((Try.prog.info? 65).map (·.size) = some (bls (trivB m)).length) := by show _ = _; rw [bls_len]; exact info65
  refine AnyS.invA _ (fun A l ac W => ∃ (f1 f3 f4 f5 f6 f7 f8 : Bool) (x11 x13 x14 x4 x5 : Value) (b5 b6 : Nat), l = #[true, f1, true, f3, f4, f5, f6, f7, f8, false] ∧
    ac = { tmps := ((((A.tmps.setIfInBounds 11 x11).setIfInBounds 13 x13).setIfInBounds 14 x14).setIfInBounds 4 x4).setIfInBounds 5 x5, defers := A.defers } ∧
    stG f1 f3 f4 f5 f6 f7 f8 = true ∧ (f1 = true → x11 = .agg (nvs 16 cl).toArray) ∧ (f3 = true → x13 = .agg (bls (trivB m)).toArray) ∧ (f5 = true → x4 = .pointer (some ⟨b5, 0, none⟩)) ∧ (f6 = true → x5 = .pointer (some ⟨b6, 0, none⟩)) ∧
    Mm w.heap.size w W (ext f6 (b6, if f8 = true then bls (trivB m) else z16b, 65) (ext f5 (b5, if f7 = true then nvs 16 cl else z16a, 64) Lo)) (gG f4 x14)) (fun l a W h => by
      obtain ⟨_, _, _, _, _, _, _, _, _, _, _, _, _, _, _, _, _, _, _, _, _, h⟩ := h
      exact HPB.out _ _ _ _ _ _ h) ?_ _ _ _ ⟨false, false, false, false, false, false, false, _, _, _, _, _, 0, 0, rfl, act5 _ 11 13 14 4 5, rfl, (fun h => by cases h), (fun h => by cases h), (fun h => by cases h), (fun h => by cases h), hM0⟩ (Nat.le_of_eq (by kernel_rfl))
  clear hU hM0
  rintro l ac W ⟨f1, f3, f4, f5, f6, f7, f8, x11, x13, x14, x4, x5, b5, b6, rfl, rfl, hst, h11, h13, h4, h5, hM⟩
  (try simp only [List.setIfInBounds_toArray, List.set_cons_zero, List.set_cons_succ])
  by_cases hall : (f8 && f4) = true
  case neg =>
    --<
    right
    refine ⟨?_, ?_⟩
    · clear h11 h13 h4 h5 hM
      cases f1 <;> cases f3 <;> cases f4 <;> cases f5 <;> cases f6 <;> cases f7 <;> cases f8 <;> first | (exact absurd hst (by decide)) | (exact absurd rfl hall) | exact ready_ne (by kernel_rfl)
    · intro q hq
      have hmem : prG f1 f3 f4 f5 f6 f7 f8 q = true := by
        clear h11 h13 h4 h5 hM
        cases f1 <;> cases f3 <;> cases f4 <;> cases f5 <;> cases f6 <;> cases f7 <;> cases f8 <;> first | (exact absurd hst (by decide)) | (exact absurd rfl hall) | exact all_mem (p := prG _ _ _ _ _ _ _) hq (by kernel_rfl)
      clear hq hall
      simp only [prG, Bool.or_eq_true, Bool.and_eq_true, beq_iff_eq, Bool.not_eq_true'] at hmem
      have HM := Lib.hid hM
      have H11 := Lib.hid h11
      have H13 := Lib.hid h13
      have H4 := Lib.hid h4
      have H5 := Lib.hid h5
      have HST := Lib.hid hst
      clear hM h11 h13 h4 h5 hst
      rcases hmem with (((((⟨rfl, rfl⟩ | ⟨⟨rfl, rfl⟩, rfl⟩) | ⟨rfl, rfl⟩) | ⟨rfl, rfl⟩) | ⟨rfl, rfl⟩) | ⟨⟨⟨⟨rfl, rfl⟩, rfl⟩, rfl⟩, rfl⟩) | ⟨⟨rfl, rfl⟩, rfl⟩
      · obtain ⟨rfl, rfl, rfl⟩ : f3 = false ∧ f7 = false ∧ f8 = false := by have := HST.out; revert this; cases f3 <;> cases f7 <;> cases f8 <;> simp [stG]
        refine wpOp_step rfl (fun K hK => ?_)
        have HK := Lib.hid hK
        clear hK
        go_simp
        refine (HCA.out _).mono ?_
        rintro e W' ⟨rfl, hb⟩
        (try simp only [Act.put, List.setIfInBounds_toArray, List.set_cons_zero, List.set_cons_succ])
        exact HK.out _ _ ⟨true, false, f4, f5, f6, false, false, _, x13, x14, x4, x5, b5, b6, rfl, rfl, rfl, (fun _ => rfl), (fun h => by cases h), H4.out, H5.out, HM.out.call hb⟩
      · obtain ⟨rfl, rfl⟩ : f7 = false ∧ f8 = false := by have := HST.out; revert this; cases f7 <;> cases f8 <;> simp [stG]
        refine wpOp_step rfl (fun K hK => ?_)
        have HK := Lib.hid hK
        clear hK
        go_simp
        refine (HTA.out _).mono ?_
        rintro e W' ⟨rfl, hb⟩
        (try simp only [Act.put, List.setIfInBounds_toArray, List.set_cons_zero, List.set_cons_succ])
        exact HK.out _ _ ⟨true, true, f4, f5, f6, false, false, x11, _, x14, x4, x5, b5, b6, rfl, rfl, rfl, H11.out, (fun _ => rfl), H4.out, H5.out, HM.out.call hb⟩
      · refine wpOp_step rfl (fun K hK => ?_)
        have HK := Lib.hid hK
        clear hK
        go_simp
        exact HK.out _ _ ⟨f1, f3, true, f5, f6, f7, f8, x11, x13, _, x4, x5, b5, b6, rfl, rfl, HST.out, H11.out, H13.out, H4.out, H5.out, HM.out.newOwn #[] 2 0 rfl (by omega)⟩
      · obtain ⟨rfl, rfl⟩ : f7 = false ∧ f8 = false := by have := HST.out; revert this; cases f7 <;> cases f8 <;> simp [stG]
        refine wpOp_step rfl (fun K hK => ?_)
        have HK := Lib.hid hK
        clear hK
        go_simp
        exact HK.out _ _ ⟨f1, f3, f4, true, f6, false, false, x11, x13, x14, _, x5, W.heap.size, b6, rfl, rfl, by have := HST.out; revert this; cases f1 <;> cases f3 <;> simp [stG], H11.out, H13.out, (fun _ => rfl), H5.out, (HM.out.alloc z16a.toArray 64).permL (ext_swap f6 _ _ _)⟩
      · obtain ⟨rfl, rfl⟩ : f7 = false ∧ f8 = false := by have := HST.out; revert this; cases f7 <;> cases f8 <;> simp [stG]
        refine wpOp_step rfl (fun K hK => ?_)
        have HK := Lib.hid hK
        clear hK
        go_simp
        exact HK.out _ _ ⟨f1, f3, f4, f5, true, false, false, x11, x13, x14, x4, _, b5, W.heap.size, rfl, rfl, by have := HST.out; revert this; cases f1 <;> cases f3 <;> simp [stG], H11.out, H13.out, H4.out, (fun _ => rfl), HM.out.alloc z16b.toArray 65⟩
      · obtain ⟨rfl, rfl⟩ : f1 = true ∧ f8 = false := by have := HST.out; revert this; cases f1 <;> cases f8 <;> simp [stG]
        obtain rfl := H11.out rfl
        obtain rfl := H4.out rfl
        refine wpOp_step rfl (fun K hK => ?_)
        have HK := Lib.hid hK
        clear hK
        have hM := HM.out
        have ht := (hM.at 1 rfl).there 0 (nvs 16 cl).length (by simp [nvs_len, z16a])
        have hM2 := hM.setAll 1 rfl (vs := nvs 16 cl) (by simp [nvs_len, z16a])
        have HM2 := Lib.hid hM2
        clear hM hM2
        refine ite_of (by kernel_rfl) ?_
        refine wp_st 64 (.tmp 4) (.tmp 11) rfl b5 0 (nvs 16 cl) rfl rfl ht H64.out (nvs_one 16 cl) ?_
        (try simp only [Act.put, List.setIfInBounds_toArray, List.set_cons_zero, List.set_cons_succ])
        exact HK.out _ _ ⟨true, true, f4, true, true, true, false, _, x13, x14, _, x5, b5, b6, rfl, rfl, rfl, (fun _ => rfl), H13.out, (fun _ => rfl), H5.out, HM2.out⟩
      · obtain ⟨rfl, rfl, rfl, rfl⟩ : f1 = true ∧ f3 = true ∧ f5 = true ∧ f6 = true := by have := HST.out; revert this; cases f1 <;> cases f3 <;> cases f5 <;> cases f6 <;> simp [stG]
        obtain rfl := H13.out rfl
        obtain rfl := H5.out rfl
        refine wpOp_step rfl (fun K hK => ?_)
        have HK := Lib.hid hK
        clear hK
        have hM := HM.out
        have ht := (hM.at 0 rfl).there 0 (bls (trivB m)).length (by simp [bls_len, z16b])
        have hM2 := hM.setAll 0 rfl (vs := bls (trivB m)) (by simp [bls_len, z16b])
        have HM2 := Lib.hid hM2
        clear hM hM2
        refine ite_of (by kernel_rfl) ?_
        refine wp_st 65 (.tmp 5) (.tmp 13) rfl b6 0 (bls (trivB m)) rfl rfl ht H65.out (bls_one _) ?_
        (try simp only [Act.put, List.setIfInBounds_toArray, List.set_cons_zero, List.set_cons_succ])
        exact HK.out _ _ ⟨true, true, f4, true, true, true, true, x11, _, x14, x4, _, b5, b6, rfl, rfl, rfl, H11.out, (fun _ => rfl), H4.out, (fun _ => rfl), HM2.out⟩
    -->
  simp only [Bool.and_eq_true] at hall
  obtain ⟨rfl, rfl⟩ := hall
  obtain ⟨rfl, rfl, rfl, rfl, rfl⟩ : f1 = true ∧ f3 = true ∧ f5 = true ∧ f6 = true ∧ f7 = true := by revert hst; cases f1 <;> cases f3 <;> cases f5 <;> cases f6 <;> cases f7 <;> simp [stG]
  obtain rfl := h4 rfl
  obtain rfl := h5 rfl
  clear hst h11 h13 h4 h5
  left
  intro n' hn'
  obtain ⟨n', rfl⟩ : ∃ n2, n' = n2 + 1 := ⟨n' - 1, by have h3 : leftN 10 #[true, true, true, true, true, true, true, true, true, false] = 1 := (by kernel_rfl); have h4 : leftN 10 #[true, true, true, true, true, true, true, true, true, false] ≤ n' := hn'; omega⟩
  clear hn'
  have hM1 : Mm w.heap.size w W [(b6, bls (trivB m), 65), (b5, nvs 16 cl, 64), (w.heap.size, m.cells, 29)] [(x14, 2, [])] := by
    rw [HLO.out] at hM; exact hM
  have hU : Upto (fun W => MAt W w.heap.size 0 m) [] #[true, true, true, true, true, true, true, true, true, false] W := .inl (hM1.mach 2 rfl)
  have HM1 := Lib.hid hM1
  clear hM hM1
  (refine AnyS.take (i := 9) rfl (by kernel_rfl) (by kernel_rfl) (by kernel_rfl) (by rfl) (fun _ _ _ h => h) (by rfl) (by intro w; go_simp; with_reducible rfl) hU (fun hU => ?_); (try simp only [Act.put, List.setIfInBounds_toArray, List.set_cons_zero, List.set_cons_succ]))
  refine AnyS.done (by kernel_rfl) ?_ _
  clear hU
  clear HCA HTA H64 H65 HPB HLO HMX HIM
  go_wp2_with fail
  go_loopw [6, 7] (fun o q wr => ∃ (i : Nat) (xs : List Int), i ≤ m.s ∧ q = .int .i64 (i : Int) ∧ Hid (genR m i = .ok xs) ∧ Mm w.heap.size w wr [(b6, bls (trivB m), 65), (b5, nvs 16 cl, 64), (w.heap.size, m.cells, 29)] [(o, 2, i64s xs)]) (fun _ q _ => 17 - (intOf q).toNat)
  case atStart => exact ⟨0, [], Nat.zero_le _, rfl, rfl, HM1.out⟩
  case round =>
    clear HM1
    obtain ⟨i, xs, hi, rfl, HX, hM⟩ := hrel
    have hm := hM.mach 2 rfl
    have cs := hm.s
    rw [HOK.out.S_eq] at cs
    have hxl := genR_len m i xs HX.out
    have ei : IntKind.i64.wrap ((i : Int) + 1) = (i : Int) + 1 := IntWalk.i64_in _ (by omega)
    have i0' : (0 : Int) ≤ (i : Int) := by omega
    by_cases hlt : i < m.s
    · have j1 : (i : Int) < (m.s : Int) := by omega
      have i16 : (i : Int) < 16 := by omega
      have c6 := (hM.at 0 rfl).cell' (bls_get (trivB m) (q := i) (by omega))
      have c5 := (hM.at 1 rfl).cell' (nvs_get cl (q := i) (by omega))
      rw [HCL.out i hlt] at c5
      have HSK := Lib.hid (genR_skip HX.out)
      have HBD := Lib.hid (genR_bad HX.out)
      have HGO := Lib.hid (genR_ok HX.out)
      cases hb : trivB m i with
      | true =>
        rw [hb] at c6
        have HX2 := Lib.hid (HSK.out (.inl hb))
        clear HSK HBD HGO hb c5
        have HM := Lib.hid hM
        clear hM hm
        go_wp2_with fail
        go_roundw
        case rel => exact ⟨i + 1, xs, by omega, by go_num, HX2.out, HM.out⟩
        case measure => simp [intOf, ei] <;> omega
      | false =>
        rw [hb] at c6
        by_cases hf : m.tbl.fin i = i
        · rw [hf] at c5
          have j3 : ((i : Int) != (i : Int)) = false := by simp
          have HBD := Lib.hid (HBD.out hb hf)
          have HGO := Lib.hid (HGO.out hb hf)
          clear HSK hb hf
          have HGT := Lib.hid (fun w => l02Trivial_any m hwf HOK.out (some ⟨w.heap.size, 0, none⟩) [(i : Int) + 1, (i : Int) + 1] 2 (gw_two hlt) (by simp) _ (ints_two w _ _))
          have hxi : (i64s xs).length ≤ 1000000 := by simp only [i64s, List.length_map]; omega
          generalize trvR m [(i : Int) + 1, (i : Int) + 1] = R at *
          clear hm
          go_wp2_with (at_builtin; refine Mm.append rfl (.tmp 31) (.tmp 34) 26 rfl hM 0 rfl Try.underlying26 hi0 hz0 hz1 hz2 rfl rfl rfl rfl hxi (by omega) ?_)
          intro g6 c6 w6 hM6
          (try simp only [List.set_cons_zero] at hM6)
          have hm6 := hM6.mach 2 rfl
          have hba : Below w6.heap.size w6 (w6.alloc (.cells #[.int .i64 ((i : Int) + 1), .int .i64 ((i : Int) + 1)] 2)) := (Below.refl _ _).alloc (Nat.le_refl _) _
          have hM7 := hM6.call hba
          clear hM hba hM6
          go_wp2_with ((with_reducible refine ld_mach ?_ (.tmp 1) ?_ (w.heap.size) (0) ?_ m hm6 hwf ?_); exact rfl; exact rfl; exact rfl)
          refine (HGT.out _).mono ?_
          rintro e w7 ⟨rfl, hb7⟩
          have hM8 := hM7.call hb7
          clear hM7 hb7 HGT hm6
          obtain ⟨R1, R2⟩ := R
          simp only at HBD HGO
          by_cases hc : R2 = 0
          · have HX2 := Lib.hid (HGO.out hc)
            subst hc
            have HX2' : Hid (genR m (i + 1) = .ok (xs ++ [(i : Int) + 1] ++ if R1 = true then [] else [-((i : Int) + 1)])) := HX2.out
            clear HX2 HBD HGO
            cases R1 with
            | true =>
              have HX3 : Hid (genR m (i + 1) = .ok (xs ++ [(i : Int) + 1])) := by show _ = _; rw [HX2'.out]; simp
              have HM : Hid (Mm w.heap.size w w7 [(b6, bls (trivB m), 65), (b5, nvs 16 cl, 64), (w.heap.size, m.cells, 29)] [(.slice (some ⟨g6, 0, none⟩) ((i64s xs).length + 1) c6, 2, i64s (xs ++ [(i : Int) + 1]))]) := by
                show Mm _ _ _ _ _; simpa [i64s] using hM8
              clear hM8 HX2'
              go_wp2_with fail
              go_roundw
              case rel => exact ⟨i + 1, _, by omega, by go_num, HX3.out, HM.out⟩
              case measure => simp [intOf, ei] <;> omega
            | false =>
              have HX3 : Hid (genR m (i + 1) = .ok (xs ++ [(i : Int) + 1] ++ [-((i : Int) + 1)])) := by show _ = _; rw [HX2'.out]; simp
              have en : IntKind.i64.wrap (-((i : Int) + 1)) = -((i : Int) + 1) := IntWalk.i64_in _ (by omega)
              have hxi2 : (i64s xs ++ [Value.int .i64 ((i : Int) + 1)]).length ≤ 1000000 := by simp only [i64s, List.length_append, List.length_map]; simp; omega
              have HEN := Lib.hid en
              clear HX2' en
              go_wp2_with (at_builtin; refine Mm.append rfl (.tmp 51) (.tmp 55) 26 rfl hM8 0 rfl Try.underlying26 hi0 hz0 hz1 hz2 rfl rfl rfl rfl hxi2 (by omega) ?_)
              intro g9 c9 w9 hM9
              have HM : Hid (Mm w.heap.size w w9 [(b6, bls (trivB m), 65), (b5, nvs 16 cl, 64), (w.heap.size, m.cells, 29)] [(.slice (some ⟨g9, 0, none⟩) ((i64s xs).length + 1 + 1) c9, 2, i64s (xs ++ [(i : Int) + 1] ++ [-((i : Int) + 1)]))]) := by
                show Mm _ _ _ _ _
                have hM9 := hM9
                (try rw [HEN.out] at hM9)
                simpa [i64s] using hM9
              clear hM8 hM9
              go_wp2_with fail
              go_roundw
              case rel => exact ⟨i + 1, _, by omega, by go_num, HX3.out, HM.out⟩
              case measure => simp [intOf, ei] <;> omega
          · have HX2 : Hid (genI m = ([], R2)) := by show _ = _; rw [HD.out, genR_err (HBD.out hc) m.s (by omega)]
            have j4 : (R2 != 0) = true := by simpa using hc
            have hb := hM8.below
            clear HBD HGO hM8 hc
            go_wp2_with fail
            go_ret2
            rw [HX2.out]
            exact ⟨_, rfl, hb, OwnI.nil _ _⟩
        · have j3 : ((m.tbl.fin i : Int) != (i : Int)) = true := by simp; omega
          have HX2 := Lib.hid (HSK.out (.inr hf))
          have HM := Lib.hid hM
          generalize m.tbl.fin i = fi at *
          clear HSK HBD HGO hb hf hM hm
          go_wp2_with fail
          go_roundw
          case rel => exact ⟨i + 1, xs, by omega, by go_num, HX2.out, HM.out⟩
          case measure => simp [intOf, ei] <;> omega
    · have hi' : i = m.s := by omega
      subst hi'
      have HX2 : Hid (genI m = (xs, 0)) := by show _ = _; rw [HD.out, HX.out]
      have HO := Lib.hid (OwnI.of_row (hM.own _ (List.mem_cons_self ..)))
      have hb := hM.below
      have j1 : ¬ ((m.s : Int) < (m.s : Int)) := by omega
      clear hM hm
      go_wp2_with fail
      go_ret2
      rw [HX2.out]
      exact ⟨_, rfl, hb, HO.out⟩
end Go.Proofs.Yteagecoiijhflaa

/- The generators of the program; GeneratorsOf of both sides. -/
namespace Go.Proofs.Yteagecoiijhflaa
open Go.RowKit
set_option linter.unusedVariables false
set_option linter.unusedSimpArgs false

set_option maxRecDepth 100000 in
set_option maxHeartbeats 4000000 in
theorem generatorsOf_any (G : Nat) (m : Mch) (hwf : m.Wf) (hok : m.Ok) (w : World) (hG : GrpR w G m) :
    Calls Try.prog 68 #[.pointer (some ⟨G, 0, none⟩)] w (RetI (genI m).1 (genI m).2 w) := by
  obtain ⟨i0, hi0, hz0, hz1, hz2⟩ := info_parts Try.info2
  have hs16 := hok.s_le
  have HOK := Lib.hid hok
  have HG := Lib.hid hG
  have HD : Hid (genI m = match genR m m.s with
    | .error c => ([], c)
    | .ok xs => (xs, 0)) := rfl
  have cs := hG.mach.s
  rw [hok.S_eq] at cs
  have hM0 := (Mm.start w).addNil 2
  clear hG
  go_enter Try.func68, Try.ntmps68
  go_wp2_with fail
  clear cs
  go_loopw [4, 13] (fun o q wr => ∃ (i : Nat) (xs : List Int), i ≤ m.s ∧ q = .int .i64 (i : Int) ∧ Hid (genR m i = .ok xs) ∧ Mm w.heap.size w wr [] [(o, 2, i64s xs)]) (fun _ q _ => 17 - (intOf q).toNat)
  case atStart => exact ⟨0, [], Nat.zero_le _, rfl, rfl, hM0⟩
  case round =>
    clear hM0
    obtain ⟨i, xs, hi, rfl, HX, hM⟩ := hrel
    have hxl := genR_len m i xs HX.out
    have ei : IntKind.i64.wrap ((i : Int) + 1) = (i : Int) + 1 := IntWalk.i64_in _ (by omega)
    have i0' : (0 : Int) ≤ (i : Int) := by omega
    by_cases hlt : i < m.s
    · have j1 : (i : Int) < (m.s : Int) := by omega
      obtain ⟨gc, cc, d1, d2⟩ := HG.out.cls
      obtain ⟨gt, ct, d3, d4⟩ := HG.out.trv
      have c6 := (hM.below.cell (World.block_lt_of_cell? _ _ d3)).trans d3
      have c7 := (hM.below.cell (World.block_lt_of_cell? _ _ (d4 i hlt))).trans (d4 i hlt)
      have c4 := (hM.below.cell (World.block_lt_of_cell? _ _ d1)).trans d1
      have c5 := (hM.below.cell (World.block_lt_of_cell? _ _ (d2 i hlt))).trans (d2 i hlt)
      clear d1 d2 d3 d4
      have HSK := Lib.hid (genR_skip HX.out)
      have HBD := Lib.hid (genR_bad HX.out)
      have HGO := Lib.hid (genR_ok HX.out)
      cases hb : trivB m i with
      | true =>
        rw [hb] at c7
        have HX2 := Lib.hid (HSK.out (.inl hb))
        clear HSK HBD HGO hb c5 c4
        have HM := Lib.hid hM
        clear hM
        go_wp2_with fail
        go_roundw
        case rel => exact ⟨i + 1, xs, by omega, by go_num, HX2.out, HM.out⟩
        case measure => simp [intOf, ei] <;> omega
      | false =>
        rw [hb] at c7
        by_cases hf : m.tbl.fin i = i
        · rw [hf] at c5
          have j3 : ((i : Int) != (i : Int)) = false := by simp
          have HBD := Lib.hid (HBD.out hb hf)
          have HGO := Lib.hid (HGO.out hb hf)
          clear HSK hb hf
          have en : IntKind.i64.wrap (-(i : Int)) = -(i : Int) := IntWalk.i64_in _ (by omega)
          have en2 : IntKind.i64.wrap (-(i : Int) - 1) = -(i : Int) - 1 := IntWalk.i64_in _ (by omega)
          have hg1 : GW m [(i : Int) + 1] := fun k hk => by rw [List.mem_singleton.1 hk]; omega
          have hg2 : GW m [-(i : Int) - 1] := fun k hk => by rw [List.mem_singleton.1 hk]; omega
          have eW : [(i : Int) + 1] ++ invW [-(i : Int) - 1] = [(i : Int) + 1, (i : Int) + 1] := by simp [invW]; omega
          have hxi : (i64s xs).length ≤ 1000000 := by simp only [i64s, List.length_map]; omega
          have HAE : Hid (∀ w6 B0 w0 L G0, Mm B0 w0 w6 L G0 → GrpR w6 G m → Calls Try.prog 108 #[.pointer (some ⟨G, 0, none⟩), .slice (some ⟨w6.heap.size, 0, none⟩) 1 1, .slice (some ⟨w6.heap.size + 1, 0, none⟩) 1 1] ((w6.alloc (.cells #[.int .i64 ((i : Int) + 1)] 2)).alloc (.cells #[.int .i64 (-(i : Int) - 1)] 2))
              (Ret (.tuple #[.bool (trvR m [(i : Int) + 1, (i : Int) + 1]).1, .int .i64 (trvR m [(i : Int) + 1, (i : Int) + 1]).2]) ((w6.alloc (.cells #[.int .i64 ((i : Int) + 1)] 2)).alloc (.cells #[.int .i64 (-(i : Int) - 1)] 2)))) := fun w6 B0 w0 L G0 hM hG => by
            have hMa := (Mm.start w6).newOwn #[.int .i64 ((i : Int) + 1)] 2 1 rfl (by omega)
            have hMb := hMa.newOwn #[.int .i64 (-(i : Int) - 1)] 2 1 rfl (by omega)
            rw [show (w6.alloc (.cells #[.int .i64 ((i : Int) + 1)] 2)).heap.size = w6.heap.size + 1 by simp] at hMb
            have h := areEqual_any G m hwf HOK.out (.slice (some ⟨w6.heap.size, 0, none⟩) 1 1) (.slice (some ⟨w6.heap.size + 1, 0, none⟩) 1 1) [(i : Int) + 1] [-(i : Int) - 1] _ _ hg1 hg2 (by simp) (by simp) _ (hG.keep hMb.below)
              (OwnI.of_row (hMb.own _ (List.mem_cons_of_mem _ (List.mem_cons_self ..)))) (OwnI.of_row (hMb.own _ (List.mem_cons_self ..)))
            rw [eW] at h
            exact h
          generalize trvR m [(i : Int) + 1, (i : Int) + 1] = R at *
          clear eW hg1 hg2
          go_wp2_with (at_builtin; refine Mm.append rfl (.tmp 34) (.tmp 37) 26 rfl hM 0 rfl Try.underlying26 hi0 hz0 hz1 hz2 rfl rfl rfl rfl hxi (by omega) ?_)
          intro g6 c6 w6 hM6
          (try simp only [List.set_cons_zero] at hM6)
          have HAE := Lib.hid (HAE.out w6 _ _ _ _ hM6 (HG.out.keep hM6.below))
          have hMb := (hM6.allocO (.cells #[.int .i64 ((i : Int) + 1)] 2)).allocO (.cells #[.int .i64 (-(i : Int) - 1)] 2)
          clear hM hM6
          go_wp2_with fail
          refine HAE.out.mono ?_
          rintro e w7 ⟨rfl, hb7⟩
          have hM8 := hMb.call hb7
          clear hMb hb7 HAE
          obtain ⟨R1, R2⟩ := R
          simp only at HBD HGO
          by_cases hc : R2 = 0
          · have HX2 := Lib.hid (HGO.out hc)
            subst hc
            have HX2' : Hid (genR m (i + 1) = .ok (xs ++ [(i : Int) + 1] ++ if R1 = true then [] else [-((i : Int) + 1)])) := HX2.out
            clear HX2 HBD HGO
            cases R1 with
            | true =>
              have HX3 : Hid (genR m (i + 1) = .ok (xs ++ [(i : Int) + 1])) := by show _ = _; rw [HX2'.out]; simp
              have HM : Hid (Mm w.heap.size w w7 [] [(.slice (some ⟨g6, 0, none⟩) ((i64s xs).length + 1) c6, 2, i64s (xs ++ [(i : Int) + 1]))]) := by
                show Mm _ _ _ _ _; simpa [i64s] using hM8
              clear hM8 HX2'
              go_wp2_with fail
              go_roundw
              case rel => exact ⟨i + 1, _, by omega, by go_num, HX3.out, HM.out⟩
              case measure => simp [intOf, ei] <;> omega
            | false =>
              have HX3 : Hid (genR m (i + 1) = .ok (xs ++ [(i : Int) + 1] ++ [-(i : Int) - 1])) := by show _ = _; rw [HX2'.out]; simp; omega
              have hxi2 : (i64s xs ++ [Value.int .i64 ((i : Int) + 1)]).length ≤ 1000000 := by simp only [i64s, List.length_append, List.length_map]; simp; omega
              clear HX2'
              go_wp2_with (at_builtin; refine Mm.append rfl (.tmp 56) (.tmp 60) 26 rfl hM8 0 rfl Try.underlying26 hi0 hz0 hz1 hz2 rfl rfl rfl rfl hxi2 (by omega) ?_)
              intro g9 c9 w9 hM9
              have HM : Hid (Mm w.heap.size w w9 [] [(.slice (some ⟨g9, 0, none⟩) ((i64s xs).length + 1 + 1) c9, 2, i64s (xs ++ [(i : Int) + 1] ++ [-(i : Int) - 1]))]) := by
                show Mm _ _ _ _ _
                simpa [i64s] using hM9
              clear hM8 hM9
              go_wp2_with fail
              go_roundw
              case rel => exact ⟨i + 1, _, by omega, by go_num, HX3.out, HM.out⟩
              case measure => simp [intOf, ei] <;> omega
          · have HX2 : Hid (genI m = ([], R2)) := by show _ = _; rw [HD.out, genR_err (HBD.out hc) m.s (by omega)]
            have j4 : (R2 != 0) = true := by simpa using hc
            have hb := hM8.below
            clear HBD HGO hM8 hc
            go_wp2_with fail
            go_ret2
            rw [HX2.out]
            exact ⟨_, rfl, hb, OwnI.nil _ _⟩
        · have j3 : ((m.tbl.fin i : Int) != (i : Int)) = true := by simp; omega
          have HX2 := Lib.hid (HSK.out (.inr hf))
          have HM := Lib.hid hM
          generalize m.tbl.fin i = fi at *
          clear HSK HBD HGO hb hf hM
          go_wp2_with fail
          go_roundw
          case rel => exact ⟨i + 1, xs, by omega, by go_num, HX2.out, HM.out⟩
          case measure => simp [intOf, ei] <;> omega
    · have hi' : i = m.s := by omega
      subst hi'
      have HX2 : Hid (genI m = (xs, 0)) := by show _ = _; rw [HD.out, HX.out]
      have HO := Lib.hid (OwnI.of_row (hM.own _ (List.mem_cons_self ..)))
      have hb := hM.below
      have j1 : ¬ ((m.s : Int) < (m.s : Int)) := by omega
      clear hM
      go_wp2_with fail
      go_ret2
      rw [HX2.out]
      exact ⟨_, rfl, hb, HO.out⟩

end Go.Proofs.Yteagecoiijhflaa
