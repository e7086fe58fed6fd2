import Derived.Test.YteagecoiijhflaaYBall17
/- l02Split: equal rows, of the reference. -/
namespace Go.Proofs.Yteagecoiijhflaa
open Go.RowKit
set_option linter.unusedVariables false
set_option linter.unusedSimpArgs false

/-- the rows of a table lie there -/
def RowsT (w : World) (vo vn : Value) (t : Tbl) : Prop := ∃ gO cO gN cN, vo = .slice (some ⟨gO, 0, none⟩) t.n cO ∧ vn = .slice (some ⟨gN, 0, none⟩) t.n cN ∧
  (∀ i, i < t.n → w.rangeAt gO (i * 3) (padC .u8 t.d (t.ot i))) ∧ (∀ i x, i < t.n → x < t.d → w.cell? ⟨gN, i * 3 + x, none⟩ = some (.int .i64 (t.nx i x)))
theorem Mg.rows {B : Nat} {w0 w : World} {L : List (Nat × List Value × TypeId)} {m : Mch} {vo vn : Value} {Q : List Wd} {N : List (List Nat)} (h : Mg B w0 w L [grO m vo Q.length Q, grN m vn Q.length N]) (hn : 1 ≤ Q.length) (hl : m.l ≤ 3) : RowsT w vo vn (tblW m Q N) := by
  obtain ⟨gO, cO, rfl⟩ := h.form 0 (v := vo) rfl (by omega)
  obtain ⟨gN, cN, rfl⟩ := h.form 1 (v := vn) rfl (by omega)
  refine ⟨gO, cO, gN, cN, rfl, rfl, fun i hi => ?_, fun i x hi hx => ?_⟩
  · refine h.elem (i := 0) rfl i _ (fun k v hv => ?_)
    have hk : k < 3 := by
      have := (List.getElem?_eq_some_iff.1 hv).1
      simpa [padC] using this
    rw [cellsR_get .u8 m.l (fO m Q) (show i < Q.length from hi) hk]
    exact hv
  · have hxl : x < m.l := hx
    have hx3 : x < 3 := by omega
    have h2 := World.ownsRow.cells (h.row 1 rfl) (g := gN) rfl (i * 3 + x) (.int .i64 ((tblW m Q N).nx i x : Int)) (by
      show (cellsR .i64 m.l Q.length (fN N))[i * 3 + x]? = _
      rw [cellsR_get .i64 m.l (fN N) (show i < Q.length from hi) hx3, padC_get _ _ _ hx3, if_pos hxl]
      rfl)
    rwa [show (⟨gN, 0, none⟩ : Addr).add (i * 3 + x) = ⟨gN, i * 3 + x, none⟩ by unfold Addr.add; split <;> simp_all] at h2
theorem eqvB (t : Tbl) (k q r : Nat) : ((List.range t.d).all (fun y => t.ot q y == t.ot r y) && (List.range t.d).all (fun y => t.cls k (t.nx q y) == t.cls k (t.nx r y))) = t.eqv (k + 1) q r := by
  rw [Bool.eq_iff_iff, Tbl.eqv_succ, Bool.and_eq_true, List.all_eq_true, List.all_eq_true]
  simp only [List.mem_range, beq_iff_eq]
  constructor
  · rintro ⟨h1, h2⟩ x hx; exact ⟨h1 x hx, (t.cls_iff k _ _).2 (h2 x hx)⟩
  · intro h; exact ⟨fun x hx => (h x hx).1, fun x hx => (t.cls_iff k _ _).1 (h x hx).2⟩
theorem fin_of_st {t : Tbl} (hw : t.Wf) (hn1 : 1 ≤ t.n) {k : Nat} (hk : 1 ≤ k) (h : t.St (k - 1)) {q : Nat} (hq : q < t.n) : t.cls k q = t.fin q := by
  have := h q hq
  rw [show k - 1 + 1 = k by omega] at this
  rw [this]; exact t.fin_st hw hn1 h hq

def spG (t : Tbl) (b : Bool) (gk k : Nat) : Prop := (b = true → t.n * t.n + 1 ≤ gk + tot (t.cls k) t.n) ∧ (b = false → 1 ≤ k ∧ t.St (k - 1))
set_option maxRecDepth 100000 in
set_option maxHeartbeats 8000000 in
theorem l02Split_any (t : Tbl) (hw : t.Wf) (hn : t.n ≤ 1000) (hd : t.d ≤ 3) (hn1 : 1 ≤ t.n) (hot : ∀ q x, q < t.n → x < t.d → t.ot q x ≤ 255) (vo vn : Value) (w : World) (hR : RowsT w vo vn t) :
    Calls Try.prog 148 #[.int .i64 (t.d : Int), vo, vn] w fun e w' => ∃ v, e = .returned v ∧ Below w.heap.size w w' ∧ OwnI w' w.heap.size v (finL t) := by
  have HMX := Lib.hid (show Try.prog.follows .mixedOrders = true by kernel_rfl)
  have HRW := Lib.hid hR
  obtain ⟨gO, cO, gN, cN, rfl, rfl, h1, h2⟩ := hR
  have H1 := Lib.hid h1
  have H2 := Lib.hid h2
  have HOT := Lib.hid hot
  have HWF := Lib.hid hw
  have HPI : Hid (∀ f, (Try.prog.info? 22).map (·.size) = some (padC .u8 t.d f).length) := fun f => by rw [padC_len]; kernel_rfl
  have HGT : Hid (Try.prog.eqGuardType Try.prog.depth 22 = false) := by show _ = _; kernel_rfl
  have hmk := mk_i64 t.n (by omega) w
  have hM0 := (Mm.start w).alloc (madeCells #[.int .i64 0] t.n) 2
  rw [made_i64, show (nvs t.n fun _ => 0) = nvs t.n (t.cls 0) from nvs_congr fun q _ => (t.cls_zero q).symm] at hM0
  clear hw h1 h2 hot
  go_enter Try.func148, Try.ntmps148
  go_wp2_with fail
  clear hmk
  have HG0 : Hid (spG t true (t.n * t.n + 1) 0) := ⟨fun _ => Nat.le_add_right _ _, fun h => by cases h⟩
  go_loopg [7, 8] (t.n * t.n + 1) (fun gk v7 v8 wr => ∃ (k A : Nat) (b : Bool), v7 = .slice (some ⟨A, 0, none⟩) t.n t.n ∧ v8 = .bool b ∧ Mm w.heap.size w wr [(A, nvs t.n (t.cls k), 2)] [] ∧ Hid (spG t b gk k))
  case atStart => exact ⟨0, _, true, rfl, rfl, hM0, HG0.out⟩
  case round =>
    clear hM0 HG0
    obtain ⟨k, A, b, rfl, rfl, hM, HG⟩ := hrel
    cases b with
    | false =>
      have hk := HG.out.2 rfl
      have HFIN : Hid (nvs t.n (t.cls k) = i64s (finL t)) := by
        show _ = _
        rw [nvs_i64s, finL]
        congr 1
        exact List.map_congr_left fun q hq => by rw [fin_of_st HWF.out hn1 hk.1 hk.2 (by simpa using hq)]
      have hF := (hM.addOwn (List.mem_cons_self ..) t.n (by simp [nvs_len]) (by omega))
      have hO := hF.own _ (List.mem_cons_self ..)
      rw [HFIN.out] at hO
      have HO : Hid (OwnI wr w.heap.size (.slice (some ⟨A, 0, none⟩) t.n t.n) (finL t)) := by
        show World.ownsRow _ _ _ _ _ _ _
        simpa [i64s] using hO
      have hbl := hM.below
      clear hM hF hO hk
      go_wp2_with fail
      go_ret
      exact ⟨_, rfl, hbl, HO.out⟩
    | true =>
      have hG := HG.out.1 rfl
      have HGK := Lib.hid hG
      have hmk := mk_i64 t.n (by omega) wr
      have hM1 := hM.alloc (madeCells #[.int .i64 0] t.n) 2
      rw [made_i64, show (nvs t.n fun _ => 0) = nvs t.n (upV (t.cls (k + 1)) 0) from nvs_congr fun q _ => by simp [upV]] at hM1
      have HM1 := Lib.hid hM1
      clear hM hM1 HG hG
      go_wp2_with fail
      clear hmk
      generalize wr.alloc (.cells (madeCells #[.int .i64 0] t.n) 2) = W1 at *
      generalize wr.heap.size = A2 at *
      go_loopw [8, 10] (fun v8 iv wi => ∃ i : Nat, i ≤ t.n ∧ iv = .int .i64 (i : Int) ∧ v8 = .bool (!((List.range i).all fun j => t.cls (k + 1) j == t.cls k j)) ∧ Mm w.heap.size w wi [(A2, nvs t.n (upV (t.cls (k + 1)) i), 2), (A, nvs t.n (t.cls k), 2)] []) (fun _ i _ => t.n - (intOf i).toNat)
      case atStart => exact ⟨0, Nat.zero_le _, rfl, rfl, HM1.out⟩
      case round =>
        clear HM1
        obtain ⟨i, hi, rfl, rfl, hM⟩ := hrel
        have ei : IntKind.i64.wrap ((i : Int) + 1) = (i : Int) + 1 := IntWalk.i64_in _ (by omega)
        by_cases hlt : i < t.n
        · have i1 : (0 : Int) ≤ (i : Int) := by omega
          have i2 : (i : Int) < (t.n : Int) := by omega
          have c2 := (hM.at 0 rfl).cell' (nvs_get (upV (t.cls (k + 1)) i) hlt)
          have f2 := (hM.at 0 rfl).free i
          have hM2 := hM.setCell 0 rfl i (.int .i64 (i : Int))
          simp only [List.set_cons_zero] at hM2
          rw [nvs_set _ _ hlt] at hM2
          have HM2 := Lib.hid hM2
          have HXA := Lib.hid (allUpto_succ (fun i => t.cls (k + 1) i == t.cls k i) i)
          generalize (List.range i).all (fun j => t.cls (k + 1) j == t.cls k j) = ba at *
          clear hM hM2
          generalize upV (t.cls (k + 1)) i i = old at *
          go_wp2_with fail
          clear c2 f2
          generalize wr.setCell ⟨A2, i, none⟩ (.int .i64 (i : Int)) = W2 at *
          go_loopw [11] (fun rv wi => ∃ r : Nat, r ≤ i ∧ rv = .int .i64 (r : Int) ∧ Mm w.heap.size w wi [(A2, nvs t.n (updN (upV (t.cls (k + 1)) i) i i), 2), (A, nvs t.n (t.cls k), 2)] [] ∧ Hid (∀ s, s < r → t.eqv (k + 1) i s = false)) (fun r _ => i - (intOf r).toNat)
          case atStart => exact ⟨0, Nat.zero_le _, rfl, HM2.out, fun s hs => by omega⟩
          case round =>
            clear HM2
            obtain ⟨r, hr, rfl, hM, HN⟩ := hrel
            have er : IntKind.i64.wrap ((r : Int) + 1) = (r : Int) + 1 := IntWalk.i64_in _ (by omega)
            by_cases hrl : r < i
            · have r1 : (0 : Int) ≤ (r : Int) := by omega
              have r2 : (r : Int) < (t.n : Int) := by omega
              have r3 : (r : Int) < (i : Int) := by omega
              have HS : Hid (∀ W, Mm w.heap.size w W [(A2, nvs t.n (updN (upV (t.cls (k + 1)) i) i i), 2), (A, nvs t.n (t.cls k), 2)] [] → W.rangeAt gO (i * 3) (padC .u8 t.d (t.ot i)) ∧ W.rangeAt gO (r * 3) (padC .u8 t.d (t.ot r))) := fun W h =>
                have K : ∀ (a : Addr) (v : Value), w.cell? a = some v → W.cell? a = some v := fun a v h' => (h.below.cell (World.block_lt_of_cell? w a h')).trans h'
                ⟨fun j v hj => K _ _ (H1.out i hlt j v hj), fun j v hj => K _ _ (H1.out r (by omega) j v hj)⟩
              have HEQ : Hid (∀ W, (Op.equalIn 10000 22 (.agg (padC .u8 t.d (t.ot i)).toArray) (.agg (padC .u8 t.d (t.ot r)).toArray)).run Try.prog W = .ok ((List.range t.d).all fun y => t.ot i y == t.ot r y) W) := fun W => eql_pad hd (fun y hy => HOT.out i y hlt hy) (fun y hy => HOT.out r y (by omega) hy) W
              have HEV := Lib.hid (eqvB t k i r)
              have HMd : Hid (Mm w.heap.size w wr.drew [(A2, nvs t.n (updN (upV (t.cls (k + 1)) i) i i), 2), (A, nvs t.n (t.cls k), 2)] []) := hM.drew
              have HP1 := Lib.hid (HPI.out (t.ot i))
              have HP2 := Lib.hid (HPI.out (t.ot r))
              generalize padC .u8 t.d (t.ot i) = P1 at *
              generalize padC .u8 t.d (t.ot r) = P2 at *
              generalize (List.range t.d).all (fun y => t.ot i y == t.ot r y) = e0 at *
              clear hM
              go_wp2_with fail
              refine region_A (fun W => W.rangeAt gO (i * 3) P1 ∧ W.rangeAt gO (r * 3) P2) [] 10 (fun W => Mm w.heap.size w W [(A2, nvs t.n (updN (upV (t.cls (k + 1)) i) i i), 2), (A, nvs t.n (t.cls k), 2)] []) rfl HMX.out HMd.out (fun W h => HS.out W h) (fun W hM hU => ?_)
              (refine AnyS.take (i := 0) rfl (by kernel_rfl) (by kernel_rfl) (by kernel_rfl) (by rfl) (fun _ _ _ h => h) (by rfl) (by intro w; go_simp; with_reducible rfl) hU (fun hU => ?_); (try simp only [Act.put, List.setIfInBounds_toArray, List.set_cons_zero, List.set_cons_succ]); refine AnyS.take (i := 1) rfl (by kernel_rfl) (by kernel_rfl) (by kernel_rfl) (by rfl) (fun _ _ _ h => h) (by rfl) (by intro w; go_simp; with_reducible rfl) hU (fun hU => ?_); (try simp only [Act.put, List.setIfInBounds_toArray, List.set_cons_zero, List.set_cons_succ]); refine AnyS.take (i := 2) rfl (by kernel_rfl) (by kernel_rfl) (by kernel_rfl) (by rfl) (fun _ _ _ h => h) (by rfl) (by intro w; go_simp; with_reducible rfl) hU (fun hU => ?_); (try simp only [Act.put, List.setIfInBounds_toArray, List.set_cons_zero, List.set_cons_succ]))
              (refine AnyS.takeS (i := 3) rfl (by kernel_rfl) (by kernel_rfl) (by kernel_rfl) (by rfl) (by kernel_rfl) (by kernel_rfl) (fun _ _ _ h => h) (by rfl) (fun W hW => run_ld Try.underlying22 rfl HP1.out (.tmp 38) rfl rfl hW.1) hU (fun hU => ?_); (try simp only [Act.put, List.setIfInBounds_toArray, List.set_cons_zero, List.set_cons_succ]))
              (refine AnyS.take (i := 4) rfl (by kernel_rfl) (by kernel_rfl) (by kernel_rfl) (by rfl) (fun _ _ _ h => h) (by rfl) (by intro w; go_simp; with_reducible rfl) hU (fun hU => ?_); (try simp only [Act.put, List.setIfInBounds_toArray, List.set_cons_zero, List.set_cons_succ]); refine AnyS.take (i := 5) rfl (by kernel_rfl) (by kernel_rfl) (by kernel_rfl) (by rfl) (fun _ _ _ h => h) (by rfl) (by intro w; go_simp; with_reducible rfl) hU (fun hU => ?_); (try simp only [Act.put, List.setIfInBounds_toArray, List.set_cons_zero, List.set_cons_succ]); refine AnyS.take (i := 6) rfl (by kernel_rfl) (by kernel_rfl) (by kernel_rfl) (by rfl) (fun _ _ _ h => h) (by rfl) (by intro w; go_simp; with_reducible rfl) hU (fun hU => ?_); (try simp only [Act.put, List.setIfInBounds_toArray, List.set_cons_zero, List.set_cons_succ]))
              (refine AnyS.takeS (i := 7) rfl (by kernel_rfl) (by kernel_rfl) (by kernel_rfl) (by rfl) (by kernel_rfl) (by kernel_rfl) (fun _ _ _ h => h) (by rfl) (fun W hW => run_ld Try.underlying22 rfl HP2.out (.tmp 42) rfl rfl hW.2) hU (fun hU => ?_); (try simp only [Act.put, List.setIfInBounds_toArray, List.set_cons_zero, List.set_cons_succ]))
              (refine AnyS.takeS (i := 8) rfl (by kernel_rfl) (by kernel_rfl) (by kernel_rfl) (by rfl) (by kernel_rfl) (by kernel_rfl) (fun _ _ _ h => h) (by rfl) (fun W hW => ex_eql rfl HGT.out HEQ.out rfl rfl W) hU (fun hU => ?_); (try simp only [Act.put, List.setIfInBounds_toArray, List.set_cons_zero, List.set_cons_succ]))
              (refine AnyS.take (i := 9) rfl (by kernel_rfl) (by kernel_rfl) (by kernel_rfl) (by rfl) (fun _ _ _ h => h) (by rfl) (by intro w; go_simp; with_reducible rfl) hU (fun hU => ?_); (try simp only [Act.put, List.setIfInBounds_toArray, List.set_cons_zero, List.set_cons_succ]))
              refine AnyS.done (by kernel_rfl) ?_ _
              clear hU
              have HMq : Hid (∀ d, Mm w.heap.size w (W.drewN d) [(A2, nvs t.n (updN (upV (t.cls (k + 1)) i) i i), 2), (A, nvs t.n (t.cls k), 2)] []) := fun d => hM.drewN d
              have HMW := Lib.hid hM
              have HE0 : Hid (e0 = (e0 && (List.range 0).all fun y => t.cls k (t.nx i y) == t.cls k (t.nx r y))) := by show _ = _; simp
              clear hM HEQ HP1 HP2 HS
              go_wp2_with fail
              go_loopw [12, 13] (fun sv xv wi => ∃ x : Nat, x ≤ t.d ∧ xv = .int .i64 (x : Int) ∧ sv = .bool (e0 && (List.range x).all fun y => t.cls k (t.nx i y) == t.cls k (t.nx r y)) ∧ Mm w.heap.size w wi [(A2, nvs t.n (updN (upV (t.cls (k + 1)) i) i i), 2), (A, nvs t.n (t.cls k), 2)] []) (fun _ x _ => t.d - (intOf x).toNat)
              case atStart => exact ⟨0, Nat.zero_le _, rfl, by simp, HMW.out⟩
              case round =>
                clear HMW HMq HE0
                obtain ⟨x, hx, rfl, rfl, hM⟩ := hrel
                have ex : IntKind.i64.wrap ((x : Int) + 1) = (x : Int) + 1 := IntWalk.i64_in _ (by omega)
                by_cases hxl : x < t.d
                · have x1 : (0 : Int) ≤ (x : Int) := by omega
                  have x2 : (x : Int) < (t.d : Int) := by omega
                  have x3 : (x : Int) < 3 := by omega
                  have HXX := Lib.hid (allUpto_succ (fun y => t.cls k (t.nx i y) == t.cls k (t.nx r y)) x)
                  have ni := HWF.out i x hlt hxl
                  have nr := HWF.out r x (by omega) hxl
                  have d1 := (hM.below.cell (World.block_lt_of_cell? _ _ (H2.out i x hlt hxl))).trans (H2.out i x hlt hxl)
                  have d2 := (hM.below.cell (World.block_lt_of_cell? _ _ (H2.out r x (by omega) hxl))).trans (H2.out r x (by omega) hxl)
                  have d3 := (hM.at 1 rfl).cell' (nvs_get (t.cls k) ni)
                  have d4 := (hM.at 1 rfl).cell' (nvs_get (t.cls k) nr)
                  have HMq : Hid (∀ d, Mm w.heap.size w (wr.drewN d) [(A2, nvs t.n (updN (upV (t.cls (k + 1)) i) i i), 2), (A, nvs t.n (t.cls k), 2)] []) := fun d => hM.drewN d
                  have a1 : (0 : Int) ≤ (t.nx i x : Int) := by omega
                  have a2 : (t.nx i x : Int) < (t.n : Int) := by omega
                  have a3 : (0 : Int) ≤ (t.nx r x : Int) := by omega
                  have a4 : (t.nx r x : Int) < (t.n : Int) := by omega
                  generalize (List.range x).all (fun y => t.cls k (t.nx i y) == t.cls k (t.nx r y)) = ea at *
                  generalize t.nx i x = n1 at *
                  generalize t.nx r x = n2 at *
                  generalize t.cls k n1 = k1 at *
                  generalize t.cls k n2 = k2 at *
                  have HKK : Hid (((k1 : Int) == (k2 : Int)) = (k1 == k2)) := by show _ = _; rw [Bool.eq_iff_iff]; simp; omega
                  clear hM
                  cases hs : (e0 && ea)
                  · have HVV : Hid ((e0 && (List.range (x + 1)).all fun y => t.cls k (t.nx i y) == t.cls k (t.nx r y)) = false) := by show _ = _; rw [HXX.out, ← Bool.and_assoc, hs]; rfl
                    clear hs HXX
                    go_wp2_with fail
                    go_quiet (fail)
                    go_wp2_with fail
                    go_roundw
                    case rel => exact ⟨x + 1, by omega, by go_num, by rw [HVV.out], HMq.out _⟩
                    case measure => simp [intOf] <;> omega
                  · have HVV : Hid ((e0 && (List.range (x + 1)).all fun y => t.cls k (t.nx i y) == t.cls k (t.nx r y)) = (k1 == k2)) := by show _ = _; rw [HXX.out, ← Bool.and_assoc, hs]; rfl
                    clear hs HXX
                    go_wp2_with fail
                    go_quiet (fail)
                    go_wp2_with fail
                    go_roundw
                    case rel => exact ⟨x + 1, by omega, by go_num, by rw [HVV.out, HKK.out], HMq.out _⟩
                    case measure => simp [intOf] <;> omega
                · have hx' : x = t.d := by omega
                  subst hx'
                  have x2 : ¬ ((t.d : Int) < (t.d : Int)) := by omega
                  rw [HEV.out]
                  cases hev : t.eqv (k + 1) i r
                  · have HN2 : Hid (∀ s, s < r + 1 → t.eqv (k + 1) i s = false) := fun s hs => by
                      by_cases e : s = r
                      · subst e; exact hev
                      · exact HN.out s (by omega)
                    have HM := Lib.hid hM
                    clear hev hM
                    go_wp2_with fail
                    go_roundw
                    case rel => exact ⟨r + 1, by omega, by go_num, HM.out, HN2.out⟩
                    case measure => simp [intOf] <;> omega
                  · have HCL : Hid (t.cls (k + 1) i = r) := lst_eq (by omega) (fun _ => hev) HN.out
                    have hc2 := nvs_get (updN (upV (t.cls (k + 1)) i) i i) hlt
                    have c2 := (hM.at 0 rfl).cell' hc2
                    have f2 := (hM.at 0 rfl).free i
                    have hM2 := hM.setCell 0 rfl i (.int .i64 (r : Int))
                    simp only [List.set_cons_zero] at hM2
                    rw [nvs_set _ _ hlt, upd_upd] at hM2
                    have HU : Hid (updN (upV (t.cls (k + 1)) i) i r = upV (t.cls (k + 1)) (i + 1)) := by
                      show _ = _
                      rw [← upV_set, HCL.out]
                    rw [HU.out] at hM2
                    have HTAIL := Lib.hid hM2
                    have c3 := (HTAIL.out.at 0 rfl).cell' (nvs_get (upV (t.cls (k + 1)) (i + 1)) hlt)
                    rw [show upV (t.cls (k + 1)) (i + 1) i = t.cls (k + 1) i by simp [upV]] at c3
                    have c4 := (HTAIL.out.at 1 rfl).cell' (nvs_get (t.cls k) hlt)
                    obtain ⟨u, hu⟩ : ∃ u, u = t.cls (k + 1) i := ⟨_, rfl⟩
                    obtain ⟨v, hv⟩ : ∃ v, v = t.cls k i := ⟨_, rfl⟩
                    rw [← hu] at c3 HXA
                    rw [← hv] at c4 HXA
                    rw [← hu] at HCL
                    have HY : Hid (((u : Int) != (v : Int)) = !(u == v)) := by show _ = _; rw [Bool.eq_iff_iff]; simp; omega
                    clear hu hv
                    have HMT : Hid (∀ d, Mm w.heap.size w ((wr.setCell ⟨A2, i, none⟩ (.int .i64 (r : Int))).drewN d) [(A2, nvs t.n (upV (t.cls (k + 1)) (i + 1)), 2), (A, nvs t.n (t.cls k), 2)] []) := fun d => HTAIL.out.drewN d
                    generalize updN (upV (t.cls (k + 1)) i) i i i = old2 at *
                    clear hM hM2 hev hc2 HTAIL HU
                    cases ba
                    · have HZ : Hid (((List.range (i + 1)).all fun j => t.cls (k + 1) j == t.cls k j) = false) := HXA.out
                      clear HXA
                      go_wp2_with fail
                      go_quiet (fail)
                      go_wp2_with fail
                      go_roundw
                      case rel => exact ⟨i + 1, by omega, by go_num, by rw [HZ.out]; rfl, HMT.out _⟩
                      case measure => simp [intOf] <;> omega
                    · have HZ : Hid (((List.range (i + 1)).all fun j => t.cls (k + 1) j == t.cls k j) = (u == v)) := by show _ = _; rw [HXA.out, Bool.true_and]
                      clear HXA
                      go_wp2_with fail
                      go_quiet (fail)
                      go_wp2_with fail
                      go_roundw
                      case rel => exact ⟨i + 1, by omega, by go_num, by rw [HZ.out, HY.out], HMT.out _⟩
                      case measure => simp [intOf] <;> omega
            · have hre : r = i := by omega
              subst hre
              have HCL : Hid (t.cls (k + 1) r = r) := lst_eq (Nat.le_refl _) (fun h => by omega) HN.out
              have HU : Hid (updN (upV (t.cls (k + 1)) r) r r = upV (t.cls (k + 1)) (r + 1)) := by
                show _ = _
                rw [← upV_set, HCL.out]
              rw [HU.out] at hM
              have HTAIL := Lib.hid hM
              have c3 := (HTAIL.out.at 0 rfl).cell' (nvs_get (upV (t.cls (k + 1)) (r + 1)) hlt)
              rw [show upV (t.cls (k + 1)) (r + 1) r = t.cls  (k + 1) r by simp [upV]] at c3
              have c4 := (HTAIL.out.at 1 rfl).cell' (nvs_get (t.cls k) hlt)
              obtain ⟨u, hu⟩ : ∃ u, u = t.cls  (k + 1) r := ⟨_, rfl⟩
              obtain ⟨v, hv⟩ : ∃ v, v = t.cls k r := ⟨_, rfl⟩
              rw [← hu] at c3 HXA
              rw [← hv] at c4 HXA
              rw [← hu] at HCL
              have HY : Hid (((u : Int) != (v : Int)) = !(u == v)) := by show _ = _; rw [Bool.eq_iff_iff]; simp; omega
              clear hu hv
              have HMT : Hid (∀ d, Mm w.heap.size w (wr.drewN d) [(A2, nvs t.n (upV (t.cls (k + 1)) (r + 1)), 2), (A, nvs t.n (t.cls k), 2)] []) := fun d => HTAIL.out.drewN d
              have r9 : ¬ ((r : Int) < (r : Int)) := by omega
              clear hM HTAIL HU
              cases ba
              · have HZ : Hid (((List.range (r + 1)).all fun j => t.cls (k + 1) j == t.cls k j) = false) := HXA.out
                clear HXA
                go_wp2_with fail
                go_quiet (fail)
                go_wp2_with fail
                go_roundw
                case rel => exact ⟨r + 1, by omega, by go_num, by rw [HZ.out]; rfl, HMT.out _⟩
                case measure => simp [intOf] <;> omega
              · have HZ : Hid (((List.range (r + 1)).all fun j => t.cls (k + 1) j == t.cls k j) = (u == v)) := by show _ = _; rw [HXA.out, Bool.true_and]
                clear HXA
                go_wp2_with fail
                go_quiet (fail)
                go_wp2_with fail
                go_roundw
                case rel => exact ⟨r + 1, by omega, by go_num, by rw [HZ.out, HY.out], HMT.out _⟩
                case measure => simp [intOf] <;> omega
        · have hie : i = t.n := by omega
          subst hie
          rw [upV_all] at hM
          cases hs : (List.range t.n).all fun j => t.cls (k + 1) j == t.cls k j
          · have hd' := cls_differ hs
            have hle := tot_cls_le t (k + 1) t.n
            have hM2 : Mm w.heap.size w wr [(A2, nvs t.n (t.cls (k + 1)), 2)] [] := hM.sub ((List.nil_sublist _).cons_cons _)
            have HM2 := Lib.hid hM2
            have HG2 : Hid (spG t true (gk - 1) (k + 1) ∧ gk - 1 < gk) := by
              have := HGK.out
              exact ⟨⟨fun _ => (by omega), fun h => (by cases h)⟩, by omega⟩
            have j2 : ¬ ((t.n : Int) < (t.n : Int)) := by omega
            clear hs hM hM2 hd' hle HGK
            go_wp2_with fail
            go_roundg (gk - 1)
            case measure => exact HG2.out.2
            case rel => exact ⟨k + 1, A2, true, rfl, rfl, HM2.out, HG2.out.1⟩
          · have hst := cls_same hs
            have hle := tot_cls_le t k t.n
            have hM2 : Mm w.heap.size w wr [(A2, nvs t.n (t.cls (k + 1)), 2)] [] := hM.sub ((List.nil_sublist _).cons_cons _)
            have HM2 := Lib.hid hM2
            have HG2 : Hid (spG t false (gk - 1) (k + 1) ∧ gk - 1 < gk) := by
              have := HGK.out
              exact ⟨⟨fun h => (by cases h), fun _ => ⟨by omega, by simpa using hst⟩⟩, by omega⟩
            have j2 : ¬ ((t.n : Int) < (t.n : Int)) := by omega
            clear hs hM hM2 hst hle HGK
            go_wp2_with fail
            go_roundg (gk - 1)
            case measure => exact HG2.out.2
            case rel => exact ⟨k + 1, A2, false, rfl, rfl, HM2.out, HG2.out.1⟩
end Go.Proofs.Yteagecoiijhflaa
