/- The program's trivial states. -/
import Derived.Test.YtmacnofkpdikiaaY1
import Derived.Test.YtmacnofkpdikiaaT2
import Derived.Test.YtmacnofkpdikiaaV
import Derived.StillTailTactics
namespace Go.Proofs.Ytmacnofkpdikiaa
open Go.RowKit
set_option linter.unusedVariables false
set_option linter.unusedSimpArgs false

/-- a machine's table, for reading -/
def TabR (w : World) (T : Nat) (m : Mch) : Prop := ∃ gN cN gO cO, w.cell? ⟨T, 0, none⟩ = some (.slice (some ⟨gN, 0, none⟩) m.s cN) ∧ w.cell? ⟨T, 1, none⟩ = some (.slice (some ⟨gO, 0, none⟩) m.s cO) ∧
  (∀ q, q < m.s → ∃ g c, w.cell? ⟨gN, q, none⟩ = some (.slice (some ⟨g, 0, none⟩) m.l c) ∧ ∀ x, x < m.l → w.cell? ⟨g, x, none⟩ = some (.int .i64 (m.nn q x))) ∧
  (∀ q, q < m.s → ∃ g c, w.cell? ⟨gO, q, none⟩ = some (.slice (some ⟨g, 0, none⟩) m.l c) ∧ ∀ x, x < m.l → w.cell? ⟨g, x, none⟩ = some (.int .i64 (m.on q x)))
theorem TabR.keep {w w' : World} {T : Nat} {m : Mch} (h : TabR w T m) (hb : Below w.heap.size w w') : TabR w' T m := by
  have K : ∀ (a : Addr) (v : Value), w.cell? a = some v → w'.cell? a = some v := fun a v h => (hb.cell (World.block_lt_of_cell? w a h)).trans h
  obtain ⟨gN, cN, gO, cO, h1, h2, h3, h4⟩ := h
  refine ⟨gN, cN, gO, cO, K _ _ h1, K _ _ h2, fun q hq => ?_, fun q hq => ?_⟩
  · obtain ⟨g, c, hc, hx⟩ := h3 q hq; exact ⟨g, c, K _ _ hc, fun x h => K _ _ (hx x h)⟩
  · obtain ⟨g, c, hc, hx⟩ := h4 q hq; exact ⟨g, c, K _ _ hc, fun x h => K _ _ (hx x h)⟩
theorem own_cell {w : World} {B E : Nat} {v : Value} {rs : List Value} (h : w.ownsRow B E 1 v rs.length rs) (h0 : 0 < rs.length) : ∃ g c, v = .slice (some ⟨g, 0, none⟩) rs.length c ∧ ∀ i u, rs[i]? = some u → w.cell? ⟨g, i, none⟩ = some u := by
  obtain ⟨g, c, hv, hc⟩ := (RowV.of_own h h0).cell
  refine ⟨g, c, hv, fun i u hi => ?_⟩
  have := List.getElem?_eq_some_iff.1 hi
  obtain ⟨hlt, he⟩ := this
  rw [hc i hlt, he]
theorem rows_cell {w : World} {m : Mch} {B : Nat} {v : Value} {rs : List Value} {f : Nat → Nat → Nat} (hs : 1 ≤ m.s) (ho : w.ownsRow B 39 1 v rs.length rs) (hr : RowsV w 2 rs ((List.range m.s).map fun q => i64s ((List.range m.l).map fun x => (f q x : Int)))) :
    ∃ g c, v = .slice (some ⟨g, 0, none⟩) m.s c ∧ ∀ q, q < m.s → ∃ g' c', w.cell? ⟨g, q, none⟩ = some (.slice (some ⟨g', 0, none⟩) m.l c') ∧ ∀ x, x < m.l → w.cell? ⟨g', x, none⟩ = some (.int .i64 (f q x)) := by
  have hl : rs.length = m.s := by rw [hr.1]; simp
  obtain ⟨g, c, hv, hc⟩ := own_cell ho (by omega)
  refine ⟨g, c, by rw [hv, hl], fun q hq => ?_⟩
  have hq' : q < rs.length := by omega
  have hR := hr.2 q rs[q] (i64s ((List.range m.l).map fun x => (f q x : Int))) (List.getElem?_eq_getElem hq') (by simp [hq])
  obtain ⟨g', c', hv', hx⟩ := hR.cell
  refine ⟨g', c', ?_, fun x hx' => ?_⟩
  · rw [hc q _ (List.getElem?_eq_getElem hq'), hv']; simp [i64s]
  · rw [hx x (by simpa [i64s] using hx')]; simp [i64s]
theorem Tab.reads {B : Nat} {w : World} {T : Nat} {m : Mch} (hs : 1 ≤ m.s) (h : Tab B w T (tabN m m.s) (tabO m m.s)) : TabR w T m := by
  obtain ⟨vN, vO, rN, rO, h1, h2, h3, h4, h5, h6, h7⟩ := h
  obtain ⟨gN, cN, eN, hN⟩ := rows_cell (f := m.nn) hs h3 h6
  obtain ⟨gO, cO, eO, hO⟩ := rows_cell (f := m.on) hs h4 h7
  subst eN eO
  exact ⟨gN, cN, gO, cO, h2.cell' rfl, h2.cell' rfl, hN, hO⟩

theorem beq_cast (y x : Nat) : ((y : Int) == (x : Int)) = (y == x) := by
  rw [Bool.eq_iff_iff, beq_iff_eq, beq_iff_eq]; omega
/-- n bools -/
def bvs (n : Nat) (tv : Nat → Bool) : List Value := (List.range n).map fun q => .bool (tv q)
theorem bvs_get {n : Nat} (tv : Nat → Bool) {q : Nat} (h : q < n) : (bvs n tv)[q]? = some (.bool (tv q)) := by simp [bvs, h]
theorem bvs_set {n : Nat} (tv : Nat → Bool) {j : Nat} (b : Bool) (h : j < n) : (bvs n tv).set j (.bool b) = bvs n (upd tv j b) := by
  apply List.ext_getElem?
  intro i
  by_cases hi : i < n
  · rw [bvs_get _ hi]
    by_cases e : i = j
    · subst e; rw [List.getElem?_set_self (by simpa [bvs] using h)]; simp [upd]
    · rw [List.getElem?_set_ne (by omega), bvs_get _ hi]; simp [upd, e]
  · rw [List.getElem?_eq_none (by simp [bvs]; omega), List.getElem?_eq_none (by simp [bvs]; omega)]
theorem Try.info4 : (Try.prog.info? 4).map (fun i => (i.zero, i.size, i.bytes)) = some (some (.bool false), 1, 1) := by kernel_rfl
/-- 'make([]bool, n)' -/
theorem mk_bool (n : Nat) (hn : n ≤ 100000) (u : World) : (Instr.makeSlice 94 (.int .i64 (n : Int)) (.int .i64 (n : Int))).run Try.prog u =
    .ok (.slice (some ⟨u.heap.size, 0, none⟩) n n) (u.alloc (.cells (madeCells #[.bool false] n) 4)) := by
  obtain ⟨i0, hi, hz0, hz1, hz2⟩ := info_parts Try.info4
  have h := run_make (P := Try.prog) u 94 4 i0 (.bool false) Try.underlying94 hi hz0 .i64 .i64 (n : Int) (n : Int) (by omega) (Int.le_refl _) (by rw [hz2]; omega) (by omega)
  simpa [hz1, Value.cells] using h
theorem made_bool (n : Nat) : (madeCells #[Value.bool false] n).toList = bvs n fun _ => false := by
  simp only [madeCells, Array.toList_map, Array.toList_range, bvs]
  exact List.map_congr_left fun x _ => by simp [Nat.mod_one]

/-- the memory of the program's rounds -/
structure PW (w wr : World) (m : Mch) (T : Nat) (tv : Nat → Bool) : Prop where
  tab : TabR wr T m
  out : Blk wr w.heap.size (bvs m.s tv) 4
  var : Blk wr (w.heap.size + 1) [.slice (some ⟨w.heap.size, 0, none⟩) m.s m.s] 94
  below : Below w.heap.size w wr
theorem PW.set {w wr : World} {m : Mch} {T : Nat} {tv : Nat → Bool} (h : PW w wr m T tv) (htab : TabR w T m) {j : Nat} (hj : j < m.s) (b : Bool) : PW w (wr.setCell ⟨w.heap.size, j, none⟩ (.bool b)) m T (upd tv j b) :=
  have hb := h.below.setCell (p := ⟨w.heap.size, j, none⟩) (Nat.le_refl _) (.bool b)
  ⟨htab.keep hb, by rw [← bvs_set tv b hj]; exact h.out.setCell _ _, h.var.setOther (by simp) _, hb⟩

theorem PW.drew {w wr : World} {m : Mch} {T : Nat} {tv : Nat → Bool} (h : PW w wr m T tv) : PW w wr.drew m T tv := ⟨h.tab.keep (Below.refl _ _).drew, h.out, h.var, h.below.drew⟩

def _root_.Go.Value.isTrue : Value → Bool | .bool b => b | _ => false
/-- how many of the first n cells of a block are true -/
def trueAt (w : World) (b q : Nat) : Bool := match w.cell? ⟨b, q, none⟩ with | some v => v.isTrue | none => false
def cntW (w : World) (b n : Nat) : Nat := ((List.range n).filter fun q => trueAt w b q).length
theorem PW.cnt {w wr : World} {m : Mch} {T : Nat} {tv : Nat → Bool} (h : PW w wr m T tv) : cntW wr w.heap.size m.s = cntT m.s tv := by
  simp only [cntW, cntT]
  congr 1
  refine List.filter_congr fun q hq => ?_
  simp only [trueAt, h.out.cell' (bvs_get tv (by simpa using hq)), Value.isTrue]

theorem enters_trivial : Enters 112 := fun args w => by kernel_rfl
theorem trivial1_any (w wr : World) (m : Mch) (T : Nat) (tv : Nat → Bool) (h : PW w wr m T tv) (r : Nat) (hr : r < m.s) :
    Calls Try.prog 112 #[.int .i64 (r : Int), .pointer (some ⟨w.heap.size + 1, 0, none⟩)] wr fun e w' => e = .returned (.bool (!tv r)) ∧ w' = wr := by
  have hv : wr.cell? ⟨w.heap.size + 1, 0, none⟩ = some (.slice (some ⟨w.heap.size, 0, none⟩) m.s m.s) := h.var.cell' rfl
  have hck := h.out.cell' (bvs_get tv hr)
  have i1 : (0 : Int) ≤ (r : Int) := by omega
  have i2 : (r : Int) < (m.s : Int) := by omega
  clear h
  go_enter Try.func112, Try.ntmps112
  go_wp2
  go_ret
  exact ⟨rfl, rfl⟩

set_option maxRecDepth 100000 in
set_option maxHeartbeats 4000000 in
theorem tableTrivial_any (T : Nat) (m : Mch) (hwf : m.Wf) (hok : m.Ok) (w : World) (hT : TabR w T m) :
    Calls Try.prog 78 #[.pointer (some ⟨T, 0, none⟩)] w (fun e w' => ∃ g, e = .returned (.slice (some ⟨g, 0, none⟩) m.s m.s) ∧ Below w.heap.size w w' ∧ Blk w' g (bvs m.s (trivB m)) 4) := by
  have hs16 := hok.s_le
  have hl3 := hok.l_le
  have hmk := mk_bool m.s (by omega) w
  obtain ⟨gN, cN, gO, cO, h1, h2, h3, h4⟩ := id hT
  have H3 := Lib.hid h3
  have H4 := Lib.hid h4
  clear h3 h4
  have hTw : T < w.heap.size := World.block_lt_of_cell? w _ h1
  go_enter Try.func78, Try.ntmps78
  go_wp2
  clear hmk
  go_loopw [22] (fun i wr => ∃ k : Nat, k ≤ m.s ∧ i = .int .i64 k ∧ PW w wr m T (fstP m k)) (fun i _ => m.s - (intOf i).toNat)
  case atStart =>
    have hb1 : Below w.heap.size w (w.alloc (.cells (madeCells #[.bool false] m.s) 4)) := boxedBelow _ _ _
    have hb2 := hb1.alloc (by simp) (.cells #[.slice (some ⟨w.heap.size, 0, none⟩) m.s m.s] 94)
    have ho := (Blk.new w (madeCells #[.bool false] m.s) 4).alloc (.cells #[.slice (some ⟨w.heap.size, 0, none⟩) m.s m.s] 94)
    have hv := Blk.new (w.alloc (.cells (madeCells #[.bool false] m.s) 4)) #[.slice (some ⟨w.heap.size, 0, none⟩) m.s m.s] 94
    rw [made_bool] at ho
    rw [show (w.alloc (.cells (madeCells #[.bool false] m.s) 4)).heap.size = w.heap.size + 1 by simp] at hv
    exact ⟨0, Nat.zero_le _, rfl, hT.keep hb2, by rw [show fstP m 0 = fun _ => false from funext fun q => by simp [fstP]]; exact ho, hv, hb2⟩
  case round =>
    obtain ⟨k, hk, rfl, hP⟩ := hrel
    by_cases hlt : k < m.s
    · obtain ⟨g, cg, hcg, hrow⟩ := H4.out k hlt
      have hgw : gO < w.heap.size := World.block_lt_of_cell? w _ hcg
      have hcg' : wr.cell? ⟨gO, k, none⟩ = some (.slice (some ⟨g, 0, none⟩) m.l cg) := (hP.below.cell (p := ⟨gO, k, none⟩) hgw).trans hcg
      have hv : wr.cell? ⟨w.heap.size + 1, 0, none⟩ = some (.slice (some ⟨w.heap.size, 0, none⟩) m.s m.s) := hP.var.cell' rfl
      have hck := hP.out.cell' (bvs_get (fstP m k) hlt)
      have hfk := hP.out.free k
      have i1 : (0 : Int) ≤ (k : Int) := by omega
      have i2 : (k : Int) < (m.s : Int) := by omega
      have HROW := Lib.hid hrow
      have hP2 := hP.set hT hlt true
      rw [fstX_zero] at hP2
      clear hrow
      go_wp2
      clear hcg' hv hck hfk
      go_loopw [32] (fun i wi => ∃ x : Nat, x ≤ m.l ∧ i = .int .i64 x ∧ PW w wi m T (fstX m k x)) (fun i _ => m.l - (intOf i).toNat)
      case atStart => exact ⟨0, Nat.zero_le _, rfl, hP2⟩
      case round =>
        clear hP hP2
        obtain ⟨x, hx, rfl, hP⟩ := hrel
        by_cases hxlt : x < m.l
        · have hcx := HROW.out x hxlt
          have hgx : g < w.heap.size := World.block_lt_of_cell? w _ hcx
          rw [← hP.below.cell (p := ⟨g, x, none⟩) hgx] at hcx
          have hck := hP.out.cell' (bvs_get (fstX m k x) hlt)
          have hfk := hP.out.free k
          have hv : wr.cell? ⟨w.heap.size + 1, 0, none⟩ = some (.slice (some ⟨w.heap.size, 0, none⟩) m.s m.s) := hP.var.cell' rfl
          have HSET : Hid (∀ b, b = (fstX m k x k && (m.on k x == x)) → PW w (wr.drew.setCell ⟨w.heap.size, k, none⟩ (.bool b)) m T (fstX m k (x + 1))) := fun b hb => by
            have := hP.drew.set hT hlt b
            rw [hb, fstX_succ] at this
            rw [hb]; exact this
          have j1 : (0 : Int) ≤ (x : Int) := by omega
          have j2 : (x : Int) < (m.l : Int) := by omega
          have hy3 : m.on k x < 3 := by have := hok.on_lt hwf hlt hxlt; omega
          clear hP
          generalize m.on k x = y at *
          cases h0 : fstX m k x k
          · rw [h0] at hck HSET
            clear h0
            go_wp2
            go_still_tail 12, (by kernel_rfl)
            change wpList _ _ _ _ _ wr.drew
            have hck2 : wr.drew.cell? ⟨w.heap.size, k, none⟩ = _ := hck
            have hfk2 : wr.drew.frozen? ⟨w.heap.size, k, none⟩ = false := hfk
            have hset := Lib.hid (HSET.out false (by simp))
            clear hck hfk hv hcx HSET
            generalize wr.drew = w2 at *
            go_wp2
            go_roundw
            case rel => exact ⟨x + 1, by omega, by go_num, hset.out⟩
            case measure => simp [intOf]; omega
          · rw [h0] at hck HSET
            clear h0
            have hset := Lib.hid (HSET.out ((y : Int) == (x : Int)) (by rw [beq_cast]; simp))
            go_wp2
            go_still_tail 12, (by kernel_rfl)
            change wpList _ _ _ _ _ wr.drew
            have hck2 : wr.drew.cell? ⟨w.heap.size, k, none⟩ = _ := hck
            have hfk2 : wr.drew.frozen? ⟨w.heap.size, k, none⟩ = false := hfk
            clear hck hfk hv hcx HSET
            generalize wr.drew = w2 at *
            go_wp2
            go_roundw
            case rel => exact ⟨x + 1, by omega, by go_num, hset.out⟩
            case measure => simp [intOf]; omega
        · have hx' : x = m.l := by omega
          subst hx'
          rw [fstX_fin m hlt] at hP
          go_wp2
          go_roundw
          case rel => exact ⟨k + 1, by omega, by go_num, hP⟩
          case measure => simp [intOf]; omega
    · have hk' : k = m.s := by omega
      subst hk'
      have hI0 := Lib.hid (PInv.start m)
      go_wp2
      go_loopw [8] (fun v wi => ∃ (a : Bool) (tv : Nat → Bool), v = .bool a ∧ PW w wi m T tv ∧ Hid (PInv m tv a m.s)) (fun v wi => (if v.isTrue then 1 else 0) + cntW wi w.heap.size m.s)
      case atStart => exact ⟨true, _, rfl, hP, ⟨hI0.out.keep, hI0.out.outs, hI0.out.none, fun h => by cases h⟩⟩
      case round =>
        clear hP hI0
        obtain ⟨a, tv, rfl, hP, HI⟩ := hrel
        have hc1 : wr.cell? ⟨T, 0, none⟩ = some (.slice (some ⟨gN, 0, none⟩) m.s cN) := (hP.below.cell (p := ⟨T, 0, none⟩) hTw).trans h1
        have hv : wr.cell? ⟨w.heap.size + 1, 0, none⟩ = some (.slice (some ⟨w.heap.size, 0, none⟩) m.s m.s) := hP.var.cell' rfl
        cases a
        · have HF := Lib.hid (HI.out.fin hok hwf)
          go_wp2
          go_ret
          exact ⟨_, rfl, hP.below, by rw [← HF.out]; exact hP.out⟩
        · have HC0 := Lib.hid (hP.cnt)
          go_wp2
          obtain ⟨wo, rfl⟩ : ∃ wo : World, wo = wr := ⟨_, rfl⟩
          go_loopw [8, 57] (fun v i wi => ∃ (j : Nat) (a : Bool) (tv' : Nat → Bool), j ≤ m.s ∧ i = .int .i64 j ∧ v = .bool a ∧ PW w wi m T tv' ∧ Hid (PInv m tv' a j) ∧ Hid (cntT m.s tv' ≤ cntT m.s tv ∧ (a = true → cntT m.s tv' < cntT m.s tv))) (fun _ i _ => m.s - (intOf i).toNat)
          case atStart => exact ⟨0, false, tv, Nat.zero_le _, rfl, rfl, hP, HI.out.begin, Nat.le_refl _, fun h => by cases h⟩
          case round =>
            clear hP hc1 hv
            obtain ⟨j, a, tv', hj, rfl, rfl, hP, HJ, HC⟩ := hrel
            have hv : wr.cell? ⟨w.heap.size + 1, 0, none⟩ = some (.slice (some ⟨w.heap.size, 0, none⟩) m.s m.s) := hP.var.cell' rfl
            by_cases hjlt : j < m.s
            · obtain ⟨g, cg, hcg, hrow⟩ := H3.out j hjlt
              have hgw : gN < w.heap.size := World.block_lt_of_cell? w _ hcg
              have hcg' : wr.cell? ⟨gN, j, none⟩ = some (.slice (some ⟨g, 0, none⟩) m.l cg) := (hP.below.cell (p := ⟨gN, j, none⟩) hgw).trans hcg
              have hcj := hP.out.cell' (bvs_get tv' hjlt)
              have hfj := hP.out.free j
              have i1 : (0 : Int) ≤ (j : Int) := by omega
              have i2 : (j : Int) < (m.s : Int) := by omega
              have HROW := Lib.hid hrow
              clear hrow hcg
              cases h0 : tv' j
              · rw [h0] at hcj
                have HN : Hid (PInv m tv' a (j + 1)) := HJ.out.pass fun h => by rw [h0] at h; cases h
                clear h0 HJ
                go_wp2
                go_roundw
                case rel => exact ⟨j + 1, a, tv', by omega, by go_num, rfl, hP, HN, HC⟩
                case measure => simp [intOf]; omega
              · rw [h0] at hcj
                have hxl : (nxR m j m.l).length = m.l := by simp [nxR]
                have hcall := containsFuncI_any 112 enters_trivial #[.pointer (some ⟨w.heap.size + 1, 0, none⟩)] (some ⟨g, 0, none⟩) (nxR m j m.l) cg (by omega) (fun r => !tv' r.toNat) wr (fun w' => w' = wr) rfl
                  (fun w' h i hi => by
                    rw [hxl] at hi
                    refine ⟨g, 0, rfl, ?_⟩
                    have hx := HROW.out i hi
                    rw [h, Nat.zero_add, hP.below.cell (p := ⟨g, i, none⟩) (World.block_lt_of_cell? w _ hx), hx]
                    simp [nxR, hi])
                  (fun w' h i hi => by
                    have hi' := hi
                    rw [hxl] at hi'
                    have e : (nxR m j m.l)[i] = ((m.nn j i : Nat) : Int) := by simp [nxR]
                    rw [h, e]
                    exact trivial1_any w wr m T tv' hP (m.nn j i) (hok.nn_lt hwf hjlt hi'))
                rw [hxl] at hcall
                have hany : (nxR m j m.l).any (fun r => !tv' r.toNat) = (List.range m.l).any fun x => !tv' (m.nn j x) := by simp [nxR, List.any_map, Function.comp_def]
                rw [hany] at hcall
                clear hxl hany
                have HT1 : Hid (tv' j = true) := h0
                clear h0
                cases h1 : (List.range m.l).any fun x => !tv' (m.nn j x)
                · rw [h1] at hcall
                  have HN : Hid (PInv m tv' a (j + 1)) := HJ.out.pass fun _ x hx => by
                    have := (List.any_eq_false.1 h1) x (by simpa using hx)
                    simpa using this
                  have HCALL := Lib.hid hcall
                  clear h1 HJ hcall
                  go_wp2_with fail
                  refine HCALL.out.mono ?_
                  rintro e w' ⟨rfl, rfl⟩
                  go_wp2
                  go_roundw
                  case rel => exact ⟨j + 1, a, tv', by omega, by go_num, rfl, hP, HN, HC⟩
                  case measure => simp [intOf]; omega
                · rw [h1] at hcall
                  obtain ⟨x, hx, hxn⟩ := List.any_eq_true.1 h1
                  have hx' : x < m.l := by simpa using hx
                  have HN := Lib.hid (HJ.out.out hok hwf hjlt hx' (by simpa using hxn))
                  have HPS := Lib.hid (hP.set hT hjlt false)
                  have HD := Lib.hid (cntT_upd hjlt HT1.out)
                  have HC2 : Hid (cntT m.s (upd tv' j false) < cntT m.s tv) := by have := HD.out; have := HC.out.1; show _ < _; omega
                  have HCALL := Lib.hid hcall
                  clear h1 HJ hcall hx hxn hx' HD HC HT1
                  go_wp2_with fail
                  refine HCALL.out.mono ?_
                  rintro e w' ⟨rfl, rfl⟩
                  go_wp2
                  go_roundw
                  case rel => exact ⟨j + 1, true, _, by omega, by go_num, rfl, HPS.out, HN.out, Nat.le_of_lt HC2.out, fun _ => HC2.out⟩
                  case measure => simp [intOf]; omega
            · have hj' : j = m.s := by omega
              have HN : Hid (PInv m tv' a m.s) := hj' ▸ HJ
              have HM : Hid ((if (Value.bool a).isTrue then 1 else 0) + cntW wr w.heap.size m.s < (if (Value.bool true).isTrue then 1 else 0) + cntW wo w.heap.size m.s) := by
                show _ < _
                rw [hP.cnt, HC0.out]
                have := HC.out
                cases a
                · simp [Value.isTrue]; omega
                · simp [Value.isTrue]; have := this.2 rfl; omega
              clear hj' HJ HC
              go_wp2
              go_roundw
              case rel => exact ⟨a, tv', rfl, hP, HN⟩
              case measure => simpa using HM.out
end Go.Proofs.Ytmacnofkpdikiaa
