import Derived.Test.YteagecoiijhflaaYBall05
import Derived.Test.YteagecoiijhflaaYBall03
import Derived.StillTailTactics
import Derived.Test.YteagecoiijhflaaYBall01
import Derived.Test.YteagecoiijhflaaYBall04
/- The program's trivial states. -/
namespace Go.Proofs.Yteagecoiijhflaa
open Go.RowKit
set_option linter.unusedVariables false
set_option linter.unusedSimpArgs false

/-- a machine's table, for reading -/
def TabR (w : World) (T : Nat) (m : Mch) : Prop := ∃ gN cN gO cO, w.cell? ⟨T, 0, none⟩ = some (.slice (some ⟨gN, 0, none⟩) m.s cN) ∧ w.cell? ⟨T, 1, none⟩ = some (.slice (some ⟨gO, 0, none⟩) m.s cO) ∧
  (∀ q, q < m.s → ∃ g c, w.cell? ⟨gN, q, none⟩ = some (.slice (some ⟨g, 0, none⟩) m.l c) ∧ ∀ x, x < m.l → w.cell? ⟨g, x, none⟩ = some (.int .i64 (m.nn q x))) ∧
  (∀ q, q < m.s → ∃ g c, w.cell? ⟨gO, q, none⟩ = some (.slice (some ⟨g, 0, none⟩) m.l c) ∧ ∀ x, x < m.l → w.cell? ⟨g, x, none⟩ = some (.int .i64 (m.on q x)))
theorem TabR.keep {w w' : World} {T : Nat} {m : Mch} (h : TabR w T m) (hb : Below w.heap.size w w') : TabR w' T m := by
  have K : ∀ (a : Addr) (v : Value), w.cell? a = some v → w'.cell? a = some v := fun a v h => (hb.cell (World.block_lt_of_cell? w a h)).trans h
  obtain ⟨gN, cN, gO, cO, h1, h2, h3, h4⟩ := h
  refine ⟨gN, cN, gO, cO, K _ _ h1, K _ _ h2, fun q hq => ?_, fun q hq => ?_⟩
  · obtain ⟨g, c, hc, hx⟩ := h3 q hq; exact ⟨g, c, K _ _ hc, fun x h => K _ _ (hx x h)⟩
  · obtain ⟨g, c, hc, hx⟩ := h4 q hq; exact ⟨g, c, K _ _ hc, fun x h => K _ _ (hx x h)⟩
theorem own_cell {w : World} {B E : Nat} {v : Value} {rs : List Value} (h : w.ownsRow B E 1 v rs.length rs) (h0 : 0 < rs.length) : ∃ g c, v = .slice (some ⟨g, 0, none⟩) rs.length c ∧ ∀ i u, rs[i]? = some u → w.cell? ⟨g, i, none⟩ = some u := by
  obtain ⟨g, c, hv, hc⟩ := (RowV.of_own h h0).cell
  refine ⟨g, c, hv, fun i u hi => ?_⟩
  have := List.getElem?_eq_some_iff.1 hi
  obtain ⟨hlt, he⟩ := this
  rw [hc i hlt, he]
theorem rows_cell {w : World} {m : Mch} {B : Nat} {v : Value} {rs : List Value} {f : Nat → Nat → Nat} (hs : 1 ≤ m.s) (ho : w.ownsRow B 26 1 v rs.length rs) (hr : RowsV w 2 rs ((List.range m.s).map fun q => i64s ((List.range m.l).map fun x => (f q x : Int)))) :
    ∃ g c, v = .slice (some ⟨g, 0, none⟩) m.s c ∧ ∀ q, q < m.s → ∃ g' c', w.cell? ⟨g, q, none⟩ = some (.slice (some ⟨g', 0, none⟩) m.l c') ∧ ∀ x, x < m.l → w.cell? ⟨g', x, none⟩ = some (.int .i64 (f q x)) := by
  have hl : rs.length = m.s := by rw [hr.1]; simp
  obtain ⟨g, c, hv, hc⟩ := own_cell ho (by omega)
  refine ⟨g, c, by rw [hv, hl], fun q hq => ?_⟩
  have hq' : q < rs.length := by omega
  have hR := hr.2 q rs[q] (i64s ((List.range m.l).map fun x => (f q x : Int))) (List.getElem?_eq_getElem hq') (by simp [hq])
  obtain ⟨g', c', hv', hx⟩ := hR.cell
  refine ⟨g', c', ?_, fun x hx' => ?_⟩
  · rw [hc q _ (List.getElem?_eq_getElem hq'), hv']; simp [i64s]
  · rw [hx x (by simpa [i64s] using hx')]; simp [i64s]
theorem Tab.reads {B : Nat} {w : World} {T : Nat} {m : Mch} (hs : 1 ≤ m.s) (h : Tab B w T (tabN m m.s) (tabO m m.s)) : TabR w T m := by
  obtain ⟨vN, vO, rN, rO, h1, h2, h3, h4, h5, h6, h7⟩ := h
  obtain ⟨gN, cN, eN, hN⟩ := rows_cell (f := m.nn) hs h3 h6
  obtain ⟨gO, cO, eO, hO⟩ := rows_cell (f := m.on) hs h4 h7
  subst eN eO
  exact ⟨gN, cN, gO, cO, h2.cell' rfl, h2.cell' rfl, hN, hO⟩

theorem beq_cast (y x : Nat) : ((y : Int) == (x : Int)) = (y == x) := by
  rw [Bool.eq_iff_iff, beq_iff_eq, beq_iff_eq]; omega
/-- n bools -/
def bvs (n : Nat) (tv : Nat → Bool) : List Value := (List.range n).map fun q => .bool (tv q)
theorem bvs_get {n : Nat} (tv : Nat → Bool) {q : Nat} (h : q < n) : (bvs n tv)[q]? = some (.bool (tv q)) := by simp [bvs, h]
theorem bvs_set {n : Nat} (tv : Nat → Bool) {j : Nat} (b : Bool) (h : j < n) : (bvs n tv).set j (.bool b) = bvs n (upd tv j b) := by
  apply List.ext_getElem?
  intro i
  by_cases hi : i < n
  · rw [bvs_get _ hi]
    by_cases e : i = j
    · subst e; rw [List.getElem?_set_self (by simpa [bvs] using h)]; simp [upd]
    · rw [List.getElem?_set_ne (by omega), bvs_get _ hi]; simp [upd, e]
  · rw [List.getElem?_eq_none (by simp [bvs]; omega), List.getElem?_eq_none (by simp [bvs]; omega)]
theorem Try.info4 : (Try.prog.info? 4).map (fun i => (i.zero, i.size, i.bytes)) = some (some (.bool false), 1, 1) := by kernel_rfl
/-- 'make([]bool, n)' -/
theorem mk_bool (n : Nat) (hn : n ≤ 100000) (u : World) : (Instr.makeSlice 130 (.int .i64 (n : Int)) (.int .i64 (n : Int))).run Try.prog u =
    .ok (.slice (some ⟨u.heap.size, 0, none⟩) n n) (u.alloc (.cells (madeCells #[.bool false] n) 4)) := by
  obtain ⟨i0, hi, hz0, hz1, hz2⟩ := info_parts Try.info4
  have h := run_make (P := Try.prog) u 130 4 i0 (.bool false) Try.underlying130 hi hz0 .i64 .i64 (n : Int) (n : Int) (by omega) (Int.le_refl _) (by rw [hz2]; omega) (by omega)
  simpa [hz1, Value.cells] using h
theorem made_bool (n : Nat) : (madeCells #[Value.bool false] n).toList = bvs n fun _ => false := by
  simp only [madeCells, Array.toList_map, Array.toList_range, bvs]
  exact List.map_congr_left fun x _ => by simp [Nat.mod_one]

/-- the memory of the program's rounds -/
structure PW (w wr : World) (m : Mch) (T : Nat) (tv : Nat → Bool) : Prop where
  tab : TabR wr T m
  out : Blk wr w.heap.size (bvs m.s tv) 4
  var : Blk wr (w.heap.size + 1) [.slice (some ⟨w.heap.size, 0, none⟩) m.s m.s] 130
  below : Below w.heap.size w wr
theorem PW.set {w wr : World} {m : Mch} {T : Nat} {tv : Nat → Bool} (h : PW w wr m T tv) (htab : TabR w T m) {j : Nat} (hj : j < m.s) (b : Bool) : PW w (wr.setCell ⟨w.heap.size, j, none⟩ (.bool b)) m T (upd tv j b) :=
  have hb := h.below.setCell (p := ⟨w.heap.size, j, none⟩) (Nat.le_refl _) (.bool b)
  ⟨htab.keep hb, by rw [← bvs_set tv b hj]; exact h.out.setCell _ _, h.var.setOther (by simp) _, hb⟩

theorem PW.drew {w wr : World} {m : Mch} {T : Nat} {tv : Nat → Bool} (h : PW w wr m T tv) : PW w wr.drew m T tv := ⟨h.tab.keep (Below.refl _ _).drew, h.out, h.var, h.below.drew⟩

def _root_.Go.Value.isTrue : Value → Bool | .bool b => b | _ => false
/-- how many of the first n cells of a block are true -/
def trueAt (w : World) (b q : Nat) : Bool := match w.cell? ⟨b, q, none⟩ with | some v => v.isTrue | none => false
def cntW (w : World) (b n : Nat) : Nat := ((List.range n).filter fun q => trueAt w b q).length
theorem PW.cnt {w wr : World} {m : Mch} {T : Nat} {tv : Nat → Bool} (h : PW w wr m T tv) : cntW wr w.heap.size m.s = cntT m.s tv := by
  simp only [cntW, cntT]
  congr 1
  refine List.filter_congr fun q hq => ?_
  simp only [trueAt, h.out.cell' (bvs_get tv (by simpa using hq)), Value.isTrue]

theorem enters_trivial : Enters 137 := fun args w => by kernel_rfl
theorem trivial1_any (w wr : World) (m : Mch) (T : Nat) (tv : Nat → Bool) (h : PW w wr m T tv) (r : Nat) (hr : r < m.s) :
    Calls Try.prog 137 #[.int .i64 (r : Int), .pointer (some ⟨w.heap.size + 1, 0, none⟩)] wr fun e w' => e = .returned (.bool (!tv r)) ∧ w' = wr := by
  have hv : wr.cell? ⟨w.heap.size + 1, 0, none⟩ = some (.slice (some ⟨w.heap.size, 0, none⟩) m.s m.s) := h.var.cell' rfl
  have hck := h.out.cell' (bvs_get tv hr)
  have i1 : (0 : Int) ≤ (r : Int) := by omega
  have i2 : (r : Int) < (m.s : Int) := by omega
  clear h
  go_enter Try.func137, Try.ntmps137
  go_wp2
  go_ret
  exact ⟨rfl, rfl⟩

set_option maxRecDepth 100000 in
set_option maxHeartbeats 4000000 in
theorem tableTrivial_any (T : Nat) (m : Mch) (hwf : m.Wf) (hok : m.Ok) (w : World) (hT : TabR w T m) :
    Calls Try.prog 107 #[.pointer (some ⟨T, 0, none⟩)] w (fun e w' => ∃ g, e = .returned (.slice (some ⟨g, 0, none⟩) m.s m.s) ∧ Below w.heap.size w w' ∧ Blk w' g (bvs m.s (trivB m)) 4) := by
  have hs16 := hok.s_le
  have hl3 := hok.l_le
  have hmk := mk_bool m.s (by omega) w
  obtain ⟨gN, cN, gO, cO, h1, h2, h3, h4⟩ := id hT
  have H3 := Lib.hid h3
  have H4 := Lib.hid h4
  clear h3 h4
  have hTw : T < w.heap.size := World.block_lt_of_cell? w _ h1
  go_enter Try.func107, Try.ntmps107
  go_wp2
  clear hmk
  go_loopw [22] (fun i wr => ∃ k : Nat, k ≤ m.s ∧ i = .int .i64 k ∧ PW w wr m T (fstP m k)) (fun i _ => m.s - (intOf i).toNat)
  case atStart =>
    have hb1 : Below w.heap.size w (w.alloc (.cells (madeCells #[.bool false] m.s) 4)) := boxedBelow _ _ _
    have hb2 := hb1.alloc (by simp) (.cells #[.slice (some ⟨w.heap.size, 0, none⟩) m.s m.s] 130)
    have ho := (Blk.new w (madeCells #[.bool false] m.s) 4).alloc (.cells #[.slice (some ⟨w.heap.size, 0, none⟩) m.s m.s] 130)
    have hv := Blk.new (w.alloc (.cells (madeCells #[.bool false] m.s) 4)) #[.slice (some ⟨w.heap.size, 0, none⟩) m.s m.s] 130
    rw [made_bool] at ho
    rw [show (w.alloc (.cells (madeCells #[.bool false] m.s) 4)).heap.size = w.heap.size + 1 by simp] at hv
    exact ⟨0, Nat.zero_le _, rfl, hT.keep hb2, by rw [show fstP m 0 = fun _ => false from funext fun q => by simp [fstP]]; exact ho, hv, hb2⟩
  case round =>
    obtain ⟨k, hk, rfl, hP⟩ := hrel
    by_cases hlt : k < m.s
    · obtain ⟨g, cg, hcg, hrow⟩ := H4.out k hlt
      have hgw : gO < w.heap.size := World.block_lt_of_cell? w _ hcg
      have hcg' : wr.cell? ⟨gO, k, none⟩ = some (.slice (some ⟨g, 0, none⟩) m.l cg) := (hP.below.cell (p := ⟨gO, k, none⟩) hgw).trans hcg
      have hv : wr.cell? ⟨w.heap.size + 1, 0, none⟩ = some (.slice (some ⟨w.heap.size, 0, none⟩) m.s m.s) := hP.var.cell' rfl
      have hck := hP.out.cell' (bvs_get (fstP m k) hlt)
      have hfk := hP.out.free k
      have i1 : (0 : Int) ≤ (k : Int) := by omega
      have i2 : (k : Int) < (m.s : Int) := by omega
      have HROW := Lib.hid hrow
      have hP2 := hP.set hT hlt true
      rw [fstX_zero] at hP2
      clear hrow
      go_wp2
      clear hcg' hv hck hfk
      go_loopw [32] (fun i wi => ∃ x : Nat, x ≤ m.l ∧ i = .int .i64 x ∧ PW w wi m T (fstX m k x)) (fun i _ => m.l - (intOf i).toNat)
      case atStart => exact ⟨0, Nat.zero_le _, rfl, hP2⟩
      case round =>
        clear hP hP2
        obtain ⟨x, hx, rfl, hP⟩ := hrel
        by_cases hxlt : x < m.l
        · have hcx := HROW.out x hxlt
          have hgx : g < w.heap.size := World.block_lt_of_cell? w _ hcx
          rw [← hP.below.cell (p := ⟨g, x, none⟩) hgx] at hcx
          have hck := hP.out.cell' (bvs_get (fstX m k x) hlt)
          have hfk := hP.out.free k
          have hv : wr.cell? ⟨w.heap.size + 1, 0, none⟩ = some (.slice (some ⟨w.heap.size, 0, none⟩) m.s m.s) := hP.var.cell' rfl
          have HSET : Hid (∀ b, b = (fstX m k x k && (m.on k x == x)) → PW w (wr.drew.setCell ⟨w.heap.size, k, none⟩ (.bool b)) m T (fstX m k (x + 1))) := fun b hb => by
            have := hP.drew.set hT hlt b
            rw [hb, fstX_succ] at this
            rw [hb]; exact this
          have j1 : (0 : Int) ≤ (x : Int) := by omega
          have j2 : (x : Int) < (m.l : Int) := by omega
          have hy3 : m.on k x < 3 := by have := hok.on_lt hwf hlt hxlt; omega
          clear hP
          generalize m.on k x = y at *
          cases h0 : fstX m k x k
          · rw [h0] at hck HSET
            clear h0
            go_wp2
            go_still_tail 12, (by kernel_rfl)
            change wpList _ _ _ _ _ wr.drew
            have hck2 : wr.drew.cell? ⟨w.heap.size, k, none⟩ = _ := hck
            have hfk2 : wr.drew.frozen? ⟨w.heap.size, k, none⟩ = false := hfk
            have hset := Lib.hid (HSET.out false (by simp))
            clear hck hfk hv hcx HSET
            generalize wr.drew = w2 at *
            go_wp2
            go_roundw
            case rel => exact ⟨x + 1, by omega, by go_num, hset.out⟩
            case measure => simp [intOf]; omega
          · rw [h0] at hck HSET
            clear h0
            have hset := Lib.hid (HSET.out ((y : Int) == (x : Int)) (by rw [beq_cast]; simp))
            go_wp2
            go_still_tail 12, (by kernel_rfl)
            change wpList _ _ _ _ _ wr.drew
            have hck2 : wr.drew.cell? ⟨w.heap.size, k, none⟩ = _ := hck
            have hfk2 : wr.drew.frozen? ⟨w.heap.size, k, none⟩ = false := hfk
            clear hck hfk hv hcx HSET
            generalize wr.drew = w2 at *
            go_wp2
            go_roundw
            case rel => exact ⟨x + 1, by omega, by go_num, hset.out⟩
            case measure => simp [intOf]; omega
        · have hx' : x = m.l := by omega
          subst hx'
          rw [fstX_fin m hlt] at hP
          go_wp2
          go_roundw
          case rel => exact ⟨k + 1, by omega, by go_num, hP⟩
          case measure => simp [intOf]; omega
    · have hk' : k = m.s := by omega
      subst hk'
      have hI0 := Lib.hid (PInv.start m)
      go_wp2
      go_loopw [8] (fun v wi => ∃ (a : Bool) (tv : Nat → Bool), v = .bool a ∧ PW w wi m T tv ∧ Hid (PInv m tv a m.s)) (fun v wi => (if v.isTrue then 1 else 0) + cntW wi w.heap.size m.s)
      case atStart => exact ⟨true, _, rfl, hP, ⟨hI0.out.keep, hI0.out.outs, hI0.out.none, fun h => by cases h⟩⟩
      case round =>
        clear hP hI0
        obtain ⟨a, tv, rfl, hP, HI⟩ := hrel
        have hc1 : wr.cell? ⟨T, 0, none⟩ = some (.slice (some ⟨gN, 0, none⟩) m.s cN) := (hP.below.cell (p := ⟨T, 0, none⟩) hTw).trans h1
        have hv : wr.cell? ⟨w.heap.size + 1, 0, none⟩ = some (.slice (some ⟨w.heap.size, 0, none⟩) m.s m.s) := hP.var.cell' rfl
        cases a
        · have HF := Lib.hid (HI.out.fin hok hwf)
          go_wp2
          go_ret
          exact ⟨_, rfl, hP.below, by rw [← HF.out]; exact hP.out⟩
        · have HC0 := Lib.hid (hP.cnt)
          go_wp2
          obtain ⟨wo, rfl⟩ : ∃ wo : World, wo = wr := ⟨_, rfl⟩
          go_loopw [8, 57] (fun v i wi => ∃ (j : Nat) (a : Bool) (tv' : Nat → Bool), j ≤ m.s ∧ i = .int .i64 j ∧ v = .bool a ∧ PW w wi m T tv' ∧ Hid (PInv m tv' a j) ∧ Hid (cntT m.s tv' ≤ cntT m.s tv ∧ (a = true → cntT m.s tv' < cntT m.s tv))) (fun _ i _ => m.s - (intOf i).toNat)
          case atStart => exact ⟨0, false, tv, Nat.zero_le _, rfl, rfl, hP, HI.out.begin, Nat.le_refl _, fun h => by cases h⟩
          case round =>
            clear hP hc1 hv
            obtain ⟨j, a, tv', hj, rfl, rfl, hP, HJ, HC⟩ := hrel
            have hv : wr.cell? ⟨w.heap.size + 1, 0, none⟩ = some (.slice (some ⟨w.heap.size, 0, none⟩) m.s m.s) := hP.var.cell' rfl
            by_cases hjlt : j < m.s
            · obtain ⟨g, cg, hcg, hrow⟩ := H3.out j hjlt
              have hgw : gN < w.heap.size := World.block_lt_of_cell? w _ hcg
              have hcg' : wr.cell? ⟨gN, j, none⟩ = some (.slice (some ⟨g, 0, none⟩) m.l cg) := (hP.below.cell (p := ⟨gN, j, none⟩) hgw).trans hcg
              have hcj := hP.out.cell' (bvs_get tv' hjlt)
              have hfj := hP.out.free j
              have i1 : (0 : Int) ≤ (j : Int) := by omega
              have i2 : (j : Int) < (m.s : Int) := by omega
              have HROW := Lib.hid hrow
              clear hrow hcg
              cases h0 : tv' j
              · rw [h0] at hcj
                have HN : Hid (PInv m tv' a (j + 1)) := HJ.out.pass fun h => by rw [h0] at h; cases h
                clear h0 HJ
                go_wp2
                go_roundw
                case rel => exact ⟨j + 1, a, tv', by omega, by go_num, rfl, hP, HN, HC⟩
                case measure => simp [intOf]; omega
              · rw [h0] at hcj
                have hxl : (nxR m j m.l).length = m.l := by simp [nxR]
                have hcall := containsFuncI_any 137 enters_trivial #[.pointer (some ⟨w.heap.size + 1, 0, none⟩)] (some ⟨g, 0, none⟩) (nxR m j m.l) cg (by omega) (fun r => !tv' r.toNat) wr (fun w' => w' = wr) rfl
                  (fun w' h i hi => by
                    rw [hxl] at hi
                    refine ⟨g, 0, rfl, ?_⟩
                    have hx := HROW.out i hi
                    rw [h, Nat.zero_add, hP.below.cell (p := ⟨g, i, none⟩) (World.block_lt_of_cell? w _ hx), hx]
                    simp [nxR, hi])
                  (fun w' h i hi => by
                    have hi' := hi
                    rw [hxl] at hi'
                    have e : (nxR m j m.l)[i] = ((m.nn j i : Nat) : Int) := by simp [nxR]
                    rw [h, e]
                    exact trivial1_any w wr m T tv' hP (m.nn j i) (hok.nn_lt hwf hjlt hi'))
                rw [hxl] at hcall
                have hany : (nxR m j m.l).any (fun r => !tv' r.toNat) = (List.range m.l).any fun x => !tv' (m.nn j x) := by simp [nxR, List.any_map, Function.comp_def]
                rw [hany] at hcall
                clear hxl hany
                have HT1 : Hid (tv' j = true) := h0
                clear h0
                cases h1 : (List.range m.l).any fun x => !tv' (m.nn j x)
                · rw [h1] at hcall
                  have HN : Hid (PInv m tv' a (j + 1)) := HJ.out.pass fun _ x hx => by
                    have := (List.any_eq_false.1 h1) x (by simpa using hx)
                    simpa using this
                  have HCALL := Lib.hid hcall
                  clear h1 HJ hcall
                  go_wp2_with fail
                  refine HCALL.out.mono ?_
                  rintro e w' ⟨rfl, rfl⟩
                  go_wp2
                  go_roundw
                  case rel => exact ⟨j + 1, a, tv', by omega, by go_num, rfl, hP, HN, HC⟩
                  case measure => simp [intOf]; omega
                · rw [h1] at hcall
                  obtain ⟨x, hx, hxn⟩ := List.any_eq_true.1 h1
                  have hx' : x < m.l := by simpa using hx
                  have HN := Lib.hid (HJ.out.out hok hwf hjlt hx' (by simpa using hxn))
                  have HPS := Lib.hid (hP.set hT hjlt false)
                  have HD := Lib.hid (cntT_upd hjlt HT1.out)
                  have HC2 : Hid (cntT m.s (upd tv' j false) < cntT m.s tv) := by have := HD.out; have := HC.out.1; show _ < _; omega
                  have HCALL := Lib.hid hcall
                  clear h1 HJ hcall hx hxn hx' HD HC HT1
                  go_wp2_with fail
                  refine HCALL.out.mono ?_
                  rintro e w' ⟨rfl, rfl⟩
                  go_wp2
                  go_roundw
                  case rel => exact ⟨j + 1, true, _, by omega, by go_num, rfl, HPS.out, HN.out, Nat.le_of_lt HC2.out, fun _ => HC2.out⟩
                  case measure => simp [intOf]; omega
            · have hj' : j = m.s := by omega
              have HN : Hid (PInv m tv' a m.s) := hj' ▸ HJ
              have HM : Hid ((if (Value.bool a).isTrue then 1 else 0) + cntW wr w.heap.size m.s < (if (Value.bool true).isTrue then 1 else 0) + cntW wo w.heap.size m.s) := by
                show _ < _
                rw [hP.cnt, HC0.out]
                have := HC.out
                cases a
                · simp [Value.isTrue]; omega
                · simp [Value.isTrue]; have := this.2 rfl; omega
              clear hj' HJ HC
              go_wp2
              go_roundw
              case rel => exact ⟨a, tv', rfl, hP, HN⟩
              case measure => simpa using HM.out
end Go.Proofs.Yteagecoiijhflaa

/- The reference's trivial states. -/
namespace Go.Proofs.Yteagecoiijhflaa
open Go.RowKit
set_option linter.unusedVariables false
set_option linter.unusedSimpArgs false

/-- sixteen bools -/
def bls (tv : Nat → Bool) : List Value := (List.range 16).map fun q => .bool (tv q)
theorem bls_get (tv : Nat → Bool) {q : Nat} (h : q < 16) : (bls tv)[q]? = some (.bool (tv q)) := by simp [bls, h]
theorem bls_set (tv : Nat → Bool) {j : Nat} (b : Bool) (h : j < 16) : (bls tv).set j (.bool b) = bls (upd tv j b) := by
  apply List.ext_getElem?
  intro i
  by_cases hi : i < 16
  · rw [bls_get _ hi]
    by_cases e : i = j
    · subst e; rw [List.getElem?_set_self (by simpa [bls] using h)]; simp [upd]
    · rw [List.getElem?_set_ne (by omega), bls_get _ hi]; simp [upd, e]
  · rw [List.getElem?_eq_none (by simp [bls]; omega), List.getElem?_eq_none (by simp [bls]; omega)]

/-- the memory of the reference's rounds -/
structure TW (w wr : World) (m : Mch) (tv : Nat → Bool) : Prop where
  mach : MAt wr w.heap.size 0 m
  res : Blk wr (w.heap.size + 1) (bls fun _ => false) 65
  out : Blk wr (w.heap.size + 1 + 1) (bls tv) 65
  below : Below w.heap.size w wr

theorem TW.l {w wr : World} {m : Mch} {tv : Nat → Bool} (h : TW w wr m tv) (hok : m.Ok) : wr.cell? ⟨w.heap.size, 0, none⟩ = some (.int .i64 (m.l : Int)) := by rw [← hok.L_eq]; exact h.mach.l
theorem TW.s {w wr : World} {m : Mch} {tv : Nat → Bool} (h : TW w wr m tv) (hok : m.Ok) : wr.cell? ⟨w.heap.size, 1, none⟩ = some (.int .i64 (m.s : Int)) := by rw [← hok.S_eq]; exact h.mach.s
theorem TW.get {w wr : World} {m : Mch} {tv : Nat → Bool} (h : TW w wr m tv) {q : Nat} (hq : q < 16) : wr.cell? ⟨w.heap.size + 1 + 1, q, none⟩ = some (.bool (tv q)) := h.out.cell' (bls_get tv hq)
theorem TW.set {w wr : World} {m : Mch} {tv : Nat → Bool} (h : TW w wr m tv) {j : Nat} (hj : j < 16) (b : Bool) : TW w (wr.setCell ⟨w.heap.size + 1 + 1, j, none⟩ (.bool b)) m (upd tv j b) :=
  ⟨h.mach.setCell (by simp only; omega) _, h.res.setOther (by simp only; omega) _, by rw [← bls_set tv b hj]; exact h.out.setCell _ _, h.below.setCell (by simp only; omega) _⟩

set_option maxRecDepth 100000 in
set_option maxHeartbeats 4000000 in
theorem l01Trivial_any (m : Mch) (hwf : m.Wf) (hok : m.Ok) (w : World) :
    Calls Try.prog 90 #[.agg m.cells.toArray] w (Ret (.agg (bls (trivB m)).toArray) w) := by
  have hm := MAt.boxed w m 29
  have hb0 := boxedBelow w m.cells.toArray 29
  have hs16 := hok.s_le
  have hl3 := hok.l_le
  go_enter Try.func90, Try.ntmps90
  go_wp2
  go_loopw [4] (fun i wr => ∃ k : Nat, k ≤ m.s ∧ i = .int .i64 k ∧ ∃ tv, TW w wr m tv ∧ Hid ((∀ q, q < k → tv q = true) ∧ ∀ q, k ≤ q → tv q = false)) (fun i _ => m.s - (intOf i).toNat)
  case atStart =>
    refine ⟨0, Nat.zero_le _, rfl, fun _ => false, ⟨(hm.alloc (by simp) _).alloc (by simp; omega) _, ?_, ?_, (hb0.alloc (by simp) _).alloc (by simp; omega) _⟩, fun q hq => by omega, fun _ _ => rfl⟩
    · have := (Blk.new (w.alloc (.cells m.cells.toArray 29)) (bls fun _ => false).toArray 65).alloc (.cells (bls fun _ => false).toArray 65)
      rw [show (w.alloc (.cells m.cells.toArray 29)).heap.size = w.heap.size + 1 by simp] at this
      exact this
    · have := Blk.new ((w.alloc (.cells m.cells.toArray 29)).alloc (.cells (bls fun _ => false).toArray 65)) (bls fun _ => false).toArray 65
      rw [show ((w.alloc (.cells m.cells.toArray 29)).alloc (.cells (bls fun _ => false).toArray 65)).heap.size = w.heap.size + 1 + 1 by simp] at this
      exact this
  case round =>
    obtain ⟨k, hk, rfl, tv, hT, hI⟩ := hrel
    have hcs := hT.s hok
    by_cases hlt : k < m.s
    · have hck := hT.get (q := k) (by omega)
      have hfk := hT.out.free k
      have i1 : (k : Int) < 16 := by omega
      have i2 : (0 : Int) ≤ (k : Int) := by omega
      go_wp2
      go_roundw
      case rel =>
        exact ⟨k + 1, by omega, by go_num, _, hT.set (by omega) true, fun q hq => by (simp only [upd]; split; rfl; exact hI.out.1 q (by omega)), fun q hq => by (simp only [upd]; rw [if_neg (by omega)]; exact hI.out.2 q (by omega))⟩
      case measure => simp [intOf]; omega
    · have hk' : k = m.s := by omega
      subst hk'
      have hinv : TInv m tv 0 := TInv.start hI.out.1 hI.out.2
      have HI := Lib.hid hinv
      clear hinv
      go_wp2
      obtain ⟨wo, rfl⟩ : ∃ wo : World, wo = wr := ⟨_, rfl⟩
      go_loopw [5] (fun i wr => ∃ r : Nat, r ≤ m.s + 1 ∧ i = .int .i64 r ∧ ∃ tv, TW w wr m tv ∧ Hid (TInv m tv r)) (fun i _ => m.s + 1 - (intOf i).toNat)
      case atStart => exact ⟨0, Nat.zero_le _, rfl, tv, hT, HI⟩
      case round =>
        clear hT HI hcs
        obtain ⟨r, hr, rfl, tv, hT, HI⟩ := hrel
        have hcs := hT.s hok
        by_cases hrlt : r ≤ m.s
        · go_wp2
          obtain ⟨wo, rfl⟩ : ∃ wo : World, wo = wr := ⟨_, rfl⟩
          go_loopw [6] (fun i wr => ∃ j : Nat, j ≤ m.s ∧ i = .int .i64 j ∧ ∃ tv, TW w wr m tv ∧ Hid (TInv2 m tv r j)) (fun i _ => m.s - (intOf i).toNat)
          case atStart => exact ⟨0, Nat.zero_le _, rfl, tv, hT, HI.out.begin⟩
          case round =>
            clear hT HI hcs
            obtain ⟨j, hj, rfl, tv, hT, HI⟩ := hrel
            have hcs := hT.s hok
            by_cases hjlt : j < m.s
            · go_wp2
              obtain ⟨wo, rfl⟩ : ∃ wo : World, wo = wr := ⟨_, rfl⟩
              go_loopw [7] (fun i wr => ∃ x : Nat, x ≤ m.l ∧ i = .int .i64 x ∧ ∃ tv, TW w wr m tv ∧ Hid (TInv3 m tv r j x)) (fun i _ => m.l - (intOf i).toNat)
              case atStart => exact ⟨0, Nat.zero_le _, rfl, tv, hT, HI.out.begin⟩
              case round =>
                clear hT HI hcs
                obtain ⟨x, hx, rfl, tv, hT, HI⟩ := hrel
                have hcl := hT.l hok
                by_cases hxlt : x < m.l
                · have hcj := hT.get (q := j) (by omega)
                  have hfj := hT.out.free j
                  have e3 := hT.mach.oo hwf (q := j) (x := x) (by omega) (by omega)
                  have e2 := hT.mach.nn hwf (q := j) (x := x) (by omega) (by omega)
                  rw [hok.o_eq hwf hjlt hxlt] at e3
                  rw [hok.n_eq hwf hjlt hxlt] at e2
                  have hz16 : m.nn j x < 16 := by have := hok.nn_lt hwf hjlt hxlt; omega
                  have hy3 : m.on j x < 3 := by have := hok.on_lt hwf hjlt hxlt; omega
                  have hcn := hT.get hz16
                  have HSTEP : Hid (∀ b, b = (tv j && (m.on j x == x) && tv (m.nn j x)) → TInv3 m (upd tv j b) r j (x + 1)) := fun b hb => HI.out.step hok hwf hjlt hxlt hb
                  have HSET : Hid (∀ b, TW w (wr.setCell ⟨w.heap.size + 1 + 1, j, none⟩ (.bool b)) m (upd tv j b)) := fun b => hT.set (by omega) b
                  have i1 : (j : Int) < 16 := by omega
                  have i2 : (0 : Int) ≤ (j : Int) := by omega
                  have i3 : (x : Int) < 3 := by omega
                  have i4 : (0 : Int) ≤ (x : Int) := by omega
                  generalize hY : m.on j x = y at *
                  generalize hZ : m.nn j x = z at *
                  have i5 : (z : Int) < 16 := by omega
                  clear hY hZ
                  cases h0 : tv j
                  · rw [h0] at hcj HSTEP
                    clear h0
                    go_wp2
                    go_roundw
                    case rel => exact ⟨x + 1, by omega, by go_num, _, HSET.out false, HSTEP.out false (by simp)⟩
                    case measure => simp [intOf]; omega
                  · rw [h0] at hcj HSTEP
                    clear h0
                    by_cases h1 : y = x
                    · subst h1
                      cases h2 : tv z
                      · rw [h2] at hcn HSTEP
                        clear h2
                        go_wp2
                        go_roundw
                        case rel => exact ⟨y + 1, by omega, by go_num, _, HSET.out false, HSTEP.out false (by simp)⟩
                        case measure => simp [intOf]; omega
                      · rw [h2] at hcn HSTEP
                        clear h2
                        go_wp2
                        go_roundw
                        case rel => exact ⟨y + 1, by omega, by go_num, _, HSET.out true, HSTEP.out true (by simp)⟩
                        case measure => simp [intOf]; omega
                    · have h1' : (y == x) = false := by simpa using h1
                      rw [h1'] at HSTEP
                      have h1i : ((y : Int) == (x : Int)) = false := by simp; omega
                      clear h1 h1'
                      go_wp2
                      go_roundw
                      case rel => exact ⟨x + 1, by omega, by go_num, _, HSET.out false, HSTEP.out false (by simp)⟩
                      case measure => simp [intOf]; omega
                · have hx' : x = m.l := by omega
                  have HF : Hid (TInv2 m tv r (j + 1)) := (hx' ▸ HI.out).fin
                  clear hx'
                  go_wp2
                  go_roundw
                  case rel => exact ⟨j + 1, by omega, by go_num, tv, hT, HF⟩
                  case measure => simp [intOf]; omega
            · have hj' : j = m.s := by omega
              have HF : Hid (TInv m tv (r + 1)) := (hj' ▸ HI.out).fin
              clear hj'
              go_wp2
              go_roundw
              case rel => exact ⟨r + 1, by omega, by go_num, tv, hT, HF⟩
              case measure => simp [intOf]; omega
        · have HF := Lib.hid (HI.out.fin hok hwf (by omega : m.s ≤ r))
          rw [HF.out] at hT
          have hall := hT.out.all
          have hth := hT.res.there 0 (bls (trivB m)).length (by simp [bls])
          have hi : (Try.prog.info? 65).map (·.size) = some (bls (trivB m)).length := by rw [show (bls (trivB m)).length = 16 by simp [bls]]; kernel_rfl
          have HI' := Lib.hid hi
          have H1 : Hid (∀ v ∈ bls (trivB m), v.oneCell' = true) := fun v hv => by simp only [bls, List.mem_map] at hv; obtain ⟨z, _, rfl⟩ := hv; rfl
          have hres := hT.res.setAll (vs := bls (trivB m)) (by simp [bls])
          have hbb := below_setCells (b := w.heap.size + 1) (by omega) (bls (trivB m)) hT.below 0
          clear hi
          go_wp2_with (first | ((with_reducible refine ld_row ?_ 65 (.tmp 3) ?_ (w.heap.size + 1 + 1) 0 ?_ (bls (trivB m)) (.array 16 4) hall Try.underlying65 ?_ HI'.out ?_); exact rfl; exact rfl; exact rfl; exact rfl) | ((with_reducible refine st_row ?_ 65 (.tmp 2) (.tmp 61) ?_ (w.heap.size + 1) 0 (bls (trivB m)) ?_ ?_ hth HI'.out H1.out ?_); exact rfl; exact rfl; exact rfl; exact rfl))
          exact bodyPost_ret (v := .agg (bls (trivB m)).toArray) (results_cell_row Try.results90 _ _ (w.heap.size + 1) 65 (bls (trivB m)).toArray (0, 0) (.array 16 4) rfl hres Try.underlying65 rfl (HI'.out.trans (by rw [List.size_toArray]))) rfl ⟨rfl, hbb⟩
end Go.Proofs.Yteagecoiijhflaa

/- ActiveAt and its reference. -/
namespace Go.Proofs.Yteagecoiijhflaa
open Go.RowKit
set_option linter.unusedVariables false
set_option linter.unusedSimpArgs false

end Go.Proofs.Yteagecoiijhflaa

/- The program's activities. -/
namespace Go.Proofs.Yteagecoiijhflaa
open Go.RowKit
set_option linter.unusedVariables false
set_option linter.unusedSimpArgs false

/-- n numbers -/
def nvs (n : Nat) (f : Nat → Nat) : List Value := (List.range n).map fun q => .int .i64 (f q : Int)
theorem nvs_get {n : Nat} (f : Nat → Nat) {q : Nat} (h : q < n) : (nvs n f)[q]? = some (.int .i64 (f q : Int)) := by simp [nvs, h]
theorem nvs_set {n : Nat} (f : Nat → Nat) {j : Nat} (v : Nat) (h : j < n) : (nvs n f).set j (.int .i64 (v : Int)) = nvs n (updN f j v) := by
  apply List.ext_getElem?
  intro i
  by_cases hi : i < n
  · rw [nvs_get _ hi]
    by_cases e : i = j
    · subst e; rw [List.getElem?_set_self (by simpa [nvs] using h)]; simp [updN]
    · rw [List.getElem?_set_ne (by omega), nvs_get _ hi]; simp [updN, e]
  · rw [List.getElem?_eq_none (by simp [nvs]; omega), List.getElem?_eq_none (by simp [nvs]; omega)]
/-- 'make([]int64, n)' -/
theorem mk_i64 (n : Nat) (hn : n ≤ 100000) (u : World) : (Instr.makeSlice 26 (.int .i64 (n : Int)) (.int .i64 (n : Int))).run Try.prog u =
    .ok (.slice (some ⟨u.heap.size, 0, none⟩) n n) (u.alloc (.cells (madeCells #[.int .i64 0] n) 2)) := by
  obtain ⟨i0, hi, hz0, hz1, hz2⟩ := info_parts Try.info2
  have h := run_make (P := Try.prog) u 26 2 i0 (.int .i64 0) Try.underlying26 hi hz0 .i64 .i64 (n : Int) (n : Int) (by omega) (Int.le_refl _) (by rw [hz2]; omega) (by omega)
  simpa [hz1, Value.cells] using h
theorem made_i64 (n : Nat) : (madeCells #[Value.int .i64 0] n).toList = nvs n fun _ => 0 := by
  simp only [madeCells, Array.toList_map, Array.toList_range, nvs]
  exact List.map_congr_left fun x _ => by simp [Nat.mod_one]
end Go.Proofs.Yteagecoiijhflaa

/- ActivityCounts of the program. -/
namespace Go.Proofs.Yteagecoiijhflaa
open Go.RowKit
set_option linter.unusedVariables false
set_option linter.unusedSimpArgs false

/-- it returns a slice of numbers of its own and a code -/
def RetI (xs : List Int) (c : Int) (w : World) (e : Ending) (w' : World) : Prop := ∃ v, e = .returned (.tuple #[v, .int .i64 c]) ∧ Below w.heap.size w w' ∧ OwnI w' w.heap.size v xs
theorem OwnI.nil (w : World) (B : Nat) : OwnI w B (.slice none 0 0) [] := World.ownsRow_nil _ _ _ _

end Go.Proofs.Yteagecoiijhflaa

/- Words of a level that are such; BoundaryWords of both sides. -/
namespace Go.Proofs.Yteagecoiijhflaa
open Go.RowKit
set_option linter.unusedVariables false
set_option linter.unusedSimpArgs false

/-- a whole row read in an operation of a drawn region -/
theorem run_ld {b o T : Nat} {D : List Value} {d : TypeDesc} (hu : Try.prog.underlying T = some d) (hd : d.isRow = true) (hi : (Try.prog.info? T).map (·.size) = some D.length) (x : Operand) {a : Act} {op : Oper} (ho : op.op = .load T x) (hx : a.eval x = .pointer (some ⟨b, o, none⟩)) {w : World} (h : w.rangeAt b o D) :
    (execOp a.eval op).run Try.prog w = .ok (.value (.agg D.toArray)) w := by
  unfold execOp
  simp only [ho, hx, Instr.loadAt, Instr.sureAddr, Sem.run_bind, Sem.run_pure, Result.andThen_ok, run_loadVar_mid w b o T D d h hu hd hi]
theorem mach_info {m : Mch} (hwf : m.Wf) : (Try.prog.info? 29).map (·.size) = some m.cells.length := by rw [Mch.cells_length hwf]; kernel_rfl
theorem own_form {w : World} {B E n : Nat} {v : Value} {xs : List Value} (h : w.ownsRow B E 1 v n xs) (hn : 0 < n) : ∃ g c, v = .slice (some ⟨g, 0, none⟩) n c ∧ g < w.heap.size ∧ B ≤ g ∧ ∀ i u, xs[i]? = some u → w.cell? ⟨g, i, none⟩ = some u := by
  rcases h.2 with ⟨_, h0⟩ | ⟨g, cap, cur, rfl, h1, h2, h3, h4, h5, h6⟩
  · omega
  · refine ⟨g, cap, rfl, (Array.getElem?_eq_some_iff.1 h2).1, h1, fun i u hi => ?_⟩
    rw [cell_of_row w g i _ _ _ h2]
    have := h6 ▸ hi
    rw [List.getElem?_take] at this
    split at this
    · simpa using this
    · cases this

/-! BoundaryWords -/
end Go.Proofs.Yteagecoiijhflaa
