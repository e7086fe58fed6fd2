import Derived.Test.YthgkkaifdlkciaaDoorYNd04
import Derived.Test.YthgkkaifdlkciaaDoorYNd03
import Derived.Test.YthgkkaifdlkciaaDoorYNd01
import Derived.Test.YthgkkaifdlkciaaDoorYNd02
import Derived.StillTailTactics
/- ParseMachine. -/
namespace Go.Proofs.YthgkkaifdlkciaaDoor
open Go.RowKit
set_option linter.unusedVariables false
set_option linter.unusedSimpArgs false

theorem mk_str_eta (s : ByteArray) : (⟨s.data.toList.toArray⟩ : ByteArray) = s := by cases s; simp

set_option maxRecDepth 100000 in
set_option maxHeartbeats 2000000 in
theorem ParseMachine_any (m : Mch) (t : ByteArray) (ht : TextOf m t) (mx : Int) (w : World) (hml : w.cell? ⟨Tryd.lCut_ren.g 1, 0, none⟩ = some (.int .i64 mx)) :
    Calls Tryd.prog 16 #[.string t] w (Ret (.tuple #[.agg m.cells.toArray, .int .i64 0]) w) := by
  have hok := mach_ok ht.mach
  have hwf := ht.wf
  have hs16 := hok.s_le
  have hs1 := hok.s_pos
  have hl2 := hok.l_ge
  have hl3 := hok.l_le
  have HMX := Lib.hid (show Tryd.prog.follows .mixedOrders = true by kernel_rfl)
  have hsz := ht.size
  have hrz : (rsB m).size ≤ 100000 := by rw [← ht.ext, ByteArray.size_extract]; omega
  have hlt0 : Tryd.lCut_ren.g 1 < w.heap.size := World.block_lt_of_cell? w _ hml
  have HCUT : Hid (∀ W, Below w.heap.size w W → Calls Tryd.prog 27 #[.string t, .string ⟨#[58]⟩] W (RetQ (.tuple #[.string (hdB m), .string (rsB m), .bool true]) W)) := fun W hW => by
    have h := Any.strings_Cut Tryd.lCut t ⟨#[58]⟩ mx W (by omega) ((hW.cell hlt0).trans hml)
    have hc := ht.cut
    rw [show ((⟨#[58]⟩ : ByteArray).data.toList) = [58] from rfl, hc] at h
    rw [mk_str_eta, mk_str_eta] at h
    exact h
  have HSPL : Hid (∀ W, Below w.heap.size w W → Calls Tryd.prog 28 #[.string (rsB m), .string ⟨#[44]⟩] W (fun e W' => e = .returned (.slice (some ⟨W.heap.size, 0, none⟩) m.s m.s) ∧ W' = W.alloc (.cells (stS (rowsB m)).toArray 9))) := fun W hW => by
    have h := Any.strings_Split Tryd.lSplit (by kernel_rfl) (rsB m) ⟨#[44]⟩ mx W (by omega) ((hW.cell hlt0).trans hml) (by decide)
    rw [ht.cnt, ht.spl] at h
    exact h
  have HIS := Lib.hid (IsMachine_any m hwf)
  have HTX := Lib.hid (machineText_any m hwf hok hrz)
  have HMT := Lib.hid ht.mach
  have HTE := Lib.hid ht.txt
  have HRA := Lib.hid (rdM_all hwf ht.mach)
  have HLE := Lib.hid hok.L_eq
  have hM0 := (Mm.start w).alloc Tryd.zeroCells25 25
  have HM0 := Lib.hid hM0
  have HSZ := Lib.hid hsz
  have hh1 : (hdB m).size = 1 := by rw [hdB, strOfNums_size]; rfl
  have hh0 : ∀ h, (((hdB m)[0]'h).toNat : Int) = 48 + (m.l : Int) := fun h => by
    have := str_get (l := [((48 + m.l : Nat) : Int)]) (i := 0) (v := 48 + m.l) h rfl (by omega)
    show (((strOfNums [((48 + m.l : Nat) : Int)])[0]'h).toNat : Int) = _
    rw [this]; omega
  clear hM0 ht hml hrz hsz
  go_enter Tryd.func16, Tryd.ntmps16
  go_wp2_with fail
  refine (HCUT.out _ HM0.out.below).mono ?_
  rintro e w1 ⟨rfl, n1, rfl⟩
  have hM1 := HM0.out.drewN n1
  go_wp2_with fail
  refine (HSPL.out _ hM1.below).mono ?_
  rintro e w2 ⟨rfl, rfl⟩
  have hM2 := hM1.alloc (stS (rowsB m)).toArray 9
  clear hM1 HM0 HCUT HSPL
  obtain ⟨gv, hgv⟩ : ∃ gv, gv = ((w.alloc (.cells Tryd.zeroCells25 25)).drewN n1).heap.size := ⟨_, rfl⟩
  rw [← hgv] at hM2 ⊢
  clear hgv
  generalize ((w.alloc (.cells Tryd.zeroCells25 25)).drewN n1).alloc (.cells (stS (rowsB m)).toArray 9) = W2 at *
  have hM3 := hM2.alloc Tryd.zeroCells25 25
  have hw0 := rdM_wf hok hwf (q := 0) (x := 0) (z := 0) (.inr ⟨by omega, rfl, rfl⟩)
  have hlen := Mch.cells_length hw0
  have ht5 := (hM3.at 0 rfl).there 0 (rdM m 0 0 0).cells.length (by simp only; rw [zero_len, hlen]; omega)
  have hM4 := hM3.setAll 0 rfl (vs := (rdM m 0 0 0).cells) (by rw [zero_len, hlen])
  simp only [List.set_cons_zero] at hM4
  have HIM := Lib.hid (mach_infoT hw0)
  have H1 := Lib.hid (mach_ones (rdM m 0 0 0))
  have HST := Lib.hid (zeroM_set m)
  have HM4 := Lib.hid hM4
  have HLS : Hid (m.S = (m.s : Int) ∧ m.L = (m.l : Int)) := ⟨hok.S_eq, hok.L_eq⟩
  have s16 : ¬ ((16 : Int) < (m.s : Int)) := by omega
  have e48 : IntKind.i64.wrap (48 + (m.l : Int) - 48) = (m.l : Int) := by rw [show (48 + (m.l : Int) - 48) = (m.l : Int) by omega]; exact IntWalk.i64_in _ (by omega)
  have e49 : IntKind.i64.wrap (48 + (m.l : Int)) = 48 + (m.l : Int) := IntWalk.i64_in _ (by omega)
  clear hM2 hM3 hM4 hw0 hlen
  go_wp2_with ((with_reducible refine st_row ?_ 25 (.tmp 8) (.tmp 39) ?_ W2.heap.size 0 (rdM m 0 0 0).cells ?_ ?_ ht5 HIM.out H1.out ?_); exact rfl; exact rfl; exact rfl; (rw [← HST.out, HLS.out.1, HLS.out.2]; exact rfl))
  clear ht5 HIM H1 HST hh0 hh1 e48 e49
  go_loopw [42] (fun qv wr => ∃ q : Nat, q ≤ m.s ∧ qv = .int .i64 (q : Int) ∧ Mm w.heap.size w wr [(W2.heap.size, (rdM m q 0 0).cells, 25), (gv, stS (rowsB m), 9), (w.heap.size, Tryd.zeroCells25.toList, 25)] []) (fun qv _ => m.s - (intOf qv).toNat)
  case atStart => exact ⟨0, Nat.zero_le _, rfl, HM4.out⟩
  case round =>
    clear HM4
    obtain ⟨q, hq, rfl, hM⟩ := hrel
    have eq : IntKind.i64.wrap ((q : Int) + 1) = (q : Int) + 1 := IntWalk.i64_in _ (by omega)
    by_cases hlt : q < m.s
    · have q1 : (0 : Int) ≤ (q : Int) := by omega
      have q2 : (q : Int) < 16 := by omega
      have q3 : (q : Int) < (m.s : Int) := by omega
      have hrs := rowB_size m q
      have hrz : ((rowB m q).size : Int) = 2 * (m.l : Int) := by rw [hrs]; omega
      have cr := (hM.at 1 rfl).cell' (i := q) (v := .string (rowB m q)) (by simp [stS, rowsB, hlt])
      have HRG : Hid (∀ x, x < m.l → ∀ h1 h2, ((rowB m q)[2 * x]'h1).toNat = 48 + m.on q x ∧ ((rowB m q)[2 * x + 1]'h2).toNat = 97 + m.nn q x) := fun x hx h1 h2 => rowB_get hok hwf hlt hx h1 h2
      have HM := Lib.hid hM
      have k1 : Int.tmod (2 * (m.l : Int)) 2 = 0 := by rw [Int.tmod_eq_emod_of_nonneg (by omega)]; omega
      have k2 : Int.tdiv (2 * (m.l : Int)) 2 = (m.l : Int) := by rw [Int.tdiv_eq_ediv_of_nonneg (by omega)]; omega
      have k3 : ¬ ((6 : Int) < 2 * (m.l : Int)) := by omega
      have k4 : IntKind.i64.wrap (m.l : Int) = (m.l : Int) := IntWalk.i64_in _ (by omega)
      clear hM
      generalize hr : rowB m q = r at *
      clear hr
      go_wp2_with fail
      clear cr k1 k2 k3 k4
      go_loopw [60] (fun xv wr => ∃ x : Nat, x ≤ m.l ∧ xv = .int .i64 (x : Int) ∧ Mm w.heap.size w wr [(W2.heap.size, (rdM m q x x).cells, 25), (gv, stS (rowsB m), 9), (w.heap.size, Tryd.zeroCells25.toList, 25)] []) (fun xv _ => m.l - (intOf xv).toNat)
      case atStart => exact ⟨0, Nat.zero_le _, rfl, HM.out⟩
      case round =>
        clear HM
        obtain ⟨x, hx, rfl, hM⟩ := hrel
        have ex : IntKind.i64.wrap ((x : Int) + 1) = (x : Int) + 1 := IntWalk.i64_in _ (by omega)
        by_cases hxl : x < m.l
        · have x1 : (0 : Int) ≤ (x : Int) := by omega
          have x2 : (x : Int) < 3 := by omega
          have x3 : (x : Int) < (m.l : Int) := by omega
          have hg := HRG.out x hxl (by omega) (by omega)
          have e3 : IntKind.i64.wrap (2 * (x : Int)) = 2 * (x : Int) := IntWalk.i64_in _ (by omega)
          have e4 : IntKind.i64.wrap (2 * (x : Int) + 1) = 2 * (x : Int) + 1 := IntWalk.i64_in _ (by omega)
          have x4 : (0 : Int) ≤ 2 * (x : Int) := by omega
          have x5 : 2 * (x : Int) < (r.size : Int) := by omega
          have x6 : (0 : Int) ≤ 2 * (x : Int) + 1 := by omega
          have x7 : 2 * (x : Int) + 1 < (r.size : Int) := by omega
          have x8 : 2 * (x : Int) + 1 < 2 * (m.l : Int) := by omega
          have x9 : 2 * (x : Int) < 2 * (m.l : Int) := by omega
          have hn := hok.nn_lt hwf hlt hxl
          have ho := hok.on_lt hwf hlt hxl
          have g1 : ∀ h, ((r[(2 * (x : Int)).toNat]'h).toNat : Int) = 48 + (m.on q x : Int) := fun h => by
            have h1 := hg.1
            have e : (2 * (x : Int)).toNat = 2 * x := by omega
            simp only [e]; omega
          have g2 : ∀ h, ((r[(2 * (x : Int) + 1).toNat]'h).toNat : Int) = 97 + (m.nn q x : Int) := fun h => by
            have h1 := hg.2
            have e : (2 * (x : Int) + 1).toNat = 2 * x + 1 := by omega
            simp only [e]; omega
          have hw1 := rdM_wf hok hwf (q := q) (x := x) (z := x) (.inl hlt)
          have hw2 := rdM_wf hok hwf (q := q) (x := x) (z := x + 1) (.inl hlt)
          have HS1 : Hid (∀ W, Mm w.heap.size w W [(W2.heap.size, (rdM m q x x).cells, 25), (gv, stS (rowsB m), 9), (w.heap.size, Tryd.zeroCells25.toList, 25)] [] → (∃ u, W.cell? ⟨W2.heap.size, 50 + q * 3 + x, none⟩ = some (.int .u8 u)) ∧ W.frozen? ⟨W2.heap.size, 50 + q * 3 + x, none⟩ = false ∧
              Mm w.heap.size w (W.setCell ⟨W2.heap.size, 50 + q * 3 + x, none⟩ (.int .u8 (m.on q x : Int))) [(W2.heap.size, (rdM m q x (x + 1)).cells, 25), (gv, stS (rowsB m), 9), (w.heap.size, Tryd.zeroCells25.toList, 25)] []) := fun W h => by
            have d1 := (h.mach 0 rfl).oo hw1 (q := q) (x := x) (by omega) (by omega)
            have h2 := h.setCell 0 rfl (50 + q * 3 + x) (.int .u8 (m.on q x : Int))
            simp only [List.set_cons_zero] at h2
            rw [rdM_setO hl3 (by omega) hxl] at h2
            exact ⟨⟨_, by simpa using d1⟩, (h.at 0 rfl).free _, h2⟩
          have HS2 : Hid (∀ W, Mm w.heap.size w W [(W2.heap.size, (rdM m q x (x + 1)).cells, 25), (gv, stS (rowsB m), 9), (w.heap.size, Tryd.zeroCells25.toList, 25)] [] → (∃ u, W.cell? ⟨W2.heap.size, 2 + q * 3 + x, none⟩ = some (.int .u8 u)) ∧ W.frozen? ⟨W2.heap.size, 2 + q * 3 + x, none⟩ = false ∧
              Mm w.heap.size w (W.setCell ⟨W2.heap.size, 2 + q * 3 + x, none⟩ (.int .u8 (m.nn q x : Int))) [(W2.heap.size, (rdM m q (x + 1) (x + 1)).cells, 25), (gv, stS (rowsB m), 9), (w.heap.size, Tryd.zeroCells25.toList, 25)] []) := fun W h => by
            have d1 := (h.mach 0 rfl).nn hw2 (q := q) (x := x) (by omega) (by omega)
            have h2 := h.setCell 0 rfl (2 + q * 3 + x) (.int .u8 (m.nn q x : Int))
            simp only [List.set_cons_zero] at h2
            rw [rdM_setN hl3 (by omega) hxl] at h2
            exact ⟨⟨_, by simpa using d1⟩, (h.at 0 rfl).free _, h2⟩
          have u1 : IntKind.u8.wrap (48 + (m.on q x : Int) - 48) = (m.on q x : Int) := by rw [show (48 + (m.on q x : Int) - 48) = (m.on q x : Int) by omega]; exact IntWalk.u8_in _ ⟨by omega, by omega⟩
          have u2 : IntKind.u8.wrap (97 + (m.nn q x : Int) - 97) = (m.nn q x : Int) := by rw [show (97 + (m.nn q x : Int) - 97) = (m.nn q x : Int) by omega]; exact IntWalk.u8_in _ ⟨by omega, by omega⟩
          have HMd := Lib.hid hM.drew
          clear hM hg hw1 hw2 hn ho
          generalize m.on q x = oq at *
          generalize m.nn q x = nq at *
          go_wp2_with fail
          refine region_A (fun _ => True) [] 23 (fun W => Mm w.heap.size w W [(W2.heap.size, (rdM m q x x).cells, 25), (gv, stS (rowsB m), 9), (w.heap.size, Tryd.zeroCells25.toList, 25)] []) rfl HMX.out HMd.out (fun _ _ => trivial) (fun W hM hU => ?_)
          clear HMd
          (refine AnyS.take (i := 0) rfl (by kernel_rfl) (by kernel_rfl) (by kernel_rfl) (by rfl) (fun _ _ _ h => h) (by rfl) (by intro w; go_simp; with_reducible rfl) hU (fun hU => ?_); (try simp only [Act.put, List.setIfInBounds_toArray, List.set_cons_zero, List.set_cons_succ]); refine AnyS.take (i := 1) rfl (by kernel_rfl) (by kernel_rfl) (by kernel_rfl) (by rfl) (fun _ _ _ h => h) (by rfl) (by intro w; go_simp; with_reducible rfl) hU (fun hU => ?_); (try simp only [Act.put, List.setIfInBounds_toArray, List.set_cons_zero, List.set_cons_succ]); refine AnyS.take (i := 2) rfl (by kernel_rfl) (by kernel_rfl) (by kernel_rfl) (by rfl) (fun _ _ _ h => h) (by rfl) (by intro w; go_simp; with_reducible rfl) hU (fun hU => ?_); (try simp only [Act.put, List.setIfInBounds_toArray, List.set_cons_zero, List.set_cons_succ]); refine AnyS.take (i := 3) rfl (by kernel_rfl) (by kernel_rfl) (by kernel_rfl) (by rfl) (fun _ _ _ h => h) (by rfl) (by intro w; go_simp; with_reducible rfl) hU (fun hU => ?_); (try simp only [Act.put, List.setIfInBounds_toArray, List.set_cons_zero, List.set_cons_succ]); refine AnyS.take (i := 4) rfl (by kernel_rfl) (by kernel_rfl) (by kernel_rfl) (by rfl) (fun _ _ _ h => h) (by rfl) (by intro w; go_simp; with_reducible rfl) hU (fun hU => ?_); (try simp only [Act.put, List.setIfInBounds_toArray, List.set_cons_zero, List.set_cons_succ]); refine AnyS.take (i := 5) rfl (by kernel_rfl) (by kernel_rfl) (by kernel_rfl) (by rfl) (fun _ _ _ h => h) (by rfl) (by intro w; go_simp; with_reducible rfl) hU (fun hU => ?_); (try simp only [Act.put, List.setIfInBounds_toArray, List.set_cons_zero, List.set_cons_succ]); refine AnyS.take (i := 6) rfl (by kernel_rfl) (by kernel_rfl) (by kernel_rfl) (by rfl) (fun _ _ _ h => h) (by rfl) (by intro w; go_simp; with_reducible rfl) hU (fun hU => ?_); (try simp only [Act.put, List.setIfInBounds_toArray, List.set_cons_zero, List.set_cons_succ]); refine AnyS.take (i := 7) rfl (by kernel_rfl) (by kernel_rfl) (by kernel_rfl) (by rfl) (fun _ _ _ h => h) (by rfl) (by intro w; go_simp; with_reducible rfl) hU (fun hU => ?_); (try simp only [Act.put, List.setIfInBounds_toArray, List.set_cons_zero, List.set_cons_succ]))
          (try rw [g1])
          (refine AnyS.take (i := 8) rfl (by kernel_rfl) (by kernel_rfl) (by kernel_rfl) (by rfl) (fun _ _ _ h => h) (by rfl) (by intro w; go_simp; with_reducible rfl) hU (fun hU => ?_); (try simp only [Act.put, List.setIfInBounds_toArray, List.set_cons_zero, List.set_cons_succ]); refine AnyS.take (i := 9) rfl (by kernel_rfl) (by kernel_rfl) (by kernel_rfl) (by rfl) (fun _ _ _ h => h) (by rfl) (by intro w; go_simp; with_reducible rfl) hU (fun hU => ?_); (try simp only [Act.put, List.setIfInBounds_toArray, List.set_cons_zero, List.set_cons_succ]); refine AnyS.take (i := 10) rfl (by kernel_rfl) (by kernel_rfl) (by kernel_rfl) (by rfl) (fun _ _ _ h => h) (by rfl) (by intro w; go_simp; with_reducible rfl) hU (fun hU => ?_); (try simp only [Act.put, List.setIfInBounds_toArray, List.set_cons_zero, List.set_cons_succ]); refine AnyS.take (i := 11) rfl (by kernel_rfl) (by kernel_rfl) (by kernel_rfl) (by rfl) (fun _ _ _ h => h) (by rfl) (by intro w; go_simp; with_reducible rfl) hU (fun hU => ?_); (try simp only [Act.put, List.setIfInBounds_toArray, List.set_cons_zero, List.set_cons_succ]); refine AnyS.take (i := 12) rfl (by kernel_rfl) (by kernel_rfl) (by kernel_rfl) (by rfl) (fun _ _ _ h => h) (by rfl) (by intro w; go_simp; with_reducible rfl) hU (fun hU => ?_); (try simp only [Act.put, List.setIfInBounds_toArray, List.set_cons_zero, List.set_cons_succ]); refine AnyS.take (i := 13) rfl (by kernel_rfl) (by kernel_rfl) (by kernel_rfl) (by rfl) (fun _ _ _ h => h) (by rfl) (by intro w; go_simp; with_reducible rfl) hU (fun hU => ?_); (try simp only [Act.put, List.setIfInBounds_toArray, List.set_cons_zero, List.set_cons_succ]))
          (try rw [g2])
          (refine AnyS.take (i := 14) rfl (by kernel_rfl) (by kernel_rfl) (by kernel_rfl) (by rfl) (fun _ _ _ h => h) (by rfl) (by intro w; go_simp; with_reducible rfl) hU (fun hU => ?_); (try simp only [Act.put, List.setIfInBounds_toArray, List.set_cons_zero, List.set_cons_succ]); refine AnyS.take (i := 15) rfl (by kernel_rfl) (by kernel_rfl) (by kernel_rfl) (by rfl) (fun _ _ _ h => h) (by rfl) (by intro w; go_simp; with_reducible rfl) hU (fun hU => ?_); (try simp only [Act.put, List.setIfInBounds_toArray, List.set_cons_zero, List.set_cons_succ]); refine AnyS.take (i := 16) rfl (by kernel_rfl) (by kernel_rfl) (by kernel_rfl) (by rfl) (fun _ _ _ h => h) (by rfl) (by intro w; go_simp; with_reducible rfl) hU (fun hU => ?_); (try simp only [Act.put, List.setIfInBounds_toArray, List.set_cons_zero, List.set_cons_succ]); refine AnyS.take (i := 17) rfl (by kernel_rfl) (by kernel_rfl) (by kernel_rfl) (by rfl) (fun _ _ _ h => h) (by rfl) (by intro w; go_simp; with_reducible rfl) hU (fun hU => ?_); (try simp only [Act.put, List.setIfInBounds_toArray, List.set_cons_zero, List.set_cons_succ]); refine AnyS.take (i := 19) rfl (by kernel_rfl) (by kernel_rfl) (by kernel_rfl) (by rfl) (fun _ _ _ h => h) (by rfl) (by intro w; go_simp; with_reducible rfl) hU (fun hU => ?_); (try simp only [Act.put, List.setIfInBounds_toArray, List.set_cons_zero, List.set_cons_succ]); refine AnyS.take (i := 20) rfl (by kernel_rfl) (by kernel_rfl) (by kernel_rfl) (by rfl) (fun _ _ _ h => h) (by rfl) (by intro w; go_simp; with_reducible rfl) hU (fun hU => ?_); (try simp only [Act.put, List.setIfInBounds_toArray, List.set_cons_zero, List.set_cons_succ]))
          obtain ⟨⟨v1, d1⟩, f1, hM4⟩ := HS1.out _ hM
          (refine AnyS.branch (rs := [18]) (by kernel_rfl) (List.cons_ne_nil _ _) ?_; refine AllS.cons rfl ?_ AllS.nil; intro K hK)
          go_simp
          refine hK.out _ _ (.inl trivial) (fun hU => ?_)
          clear hK K d1 f1 hM
          (try simp only [Act.put, List.setIfInBounds_toArray, List.set_cons_zero, List.set_cons_succ])
          (refine AnyS.take (i := 21) rfl (by kernel_rfl) (by kernel_rfl) (by kernel_rfl) (by rfl) (fun _ _ _ h => h) (by rfl) (by intro w; go_simp; with_reducible rfl) hU (fun hU => ?_); (try simp only [Act.put, List.setIfInBounds_toArray, List.set_cons_zero, List.set_cons_succ]))
          obtain ⟨⟨v2, d2⟩, f2, hM5⟩ := HS2.out _ hM4
          (refine AnyS.branch (rs := [22]) (by kernel_rfl) (List.cons_ne_nil _ _) ?_; refine AllS.cons rfl ?_ AllS.nil; intro K hK)
          go_simp
          refine hK.out _ _ (.inl trivial) (fun hU => ?_)
          clear hK K d2 f2 hM4
          (try simp only [Act.put, List.setIfInBounds_toArray, List.set_cons_zero, List.set_cons_succ])
          refine AnyS.done (by kernel_rfl) ?_ _
          clear hU g1 g2 HS1 HS2 x4 x5 x6 x7 x8 x9 e3 e4 u1 u2
          have HM5 := Lib.hid hM5
          clear hM5
          go_wp2_with fail
          go_roundw
          case rel => exact ⟨x + 1, by omega, by go_num, HM5.out⟩
          case measure => simp [intOf] <;> omega
        · obtain rfl : x = m.l := by omega
          have x3 : ¬ ((m.l : Int) < (m.l : Int)) := by omega
          rw [rdM_row] at hM
          have HM := Lib.hid hM
          clear hM
          go_wp2_with fail
          go_roundw
          case rel => exact ⟨q + 1, by omega, by go_num, HM.out⟩
          case measure => simp [intOf] <;> omega
    · obtain rfl : q = m.s := by omega
      have q3 : ¬ ((m.s : Int) < (m.s : Int)) := by omega
      rw [HRA.out] at hM
      have HIT := Lib.hid (mach_infoT hwf)
      have HM1 := Lib.hid (mach_ones m)
      have HML2 := Lib.hid (Mch.cells_length hwf)
      have hm8 := hM.mach 0 rfl
      have HM := Lib.hid hM
      clear hM
      go_wp2_with ((with_reducible refine ld_mach ?_ (.tmp 8) ?_ W2.heap.size 0 ?_ m hm8 hwf ?_); exact rfl; exact rfl; exact rfl)
      refine (HIS.out _).mono ?_
      rintro e w4 ⟨rfl, hb4⟩
      have hM4 := HM.out.call hb4
      rw [HMT.out]
      have hm9 := hM4.mach 0 rfl
      clear hm8 hb4 HM
      have HM4 := Lib.hid hM4
      clear hM4
      go_wp2_with ((with_reducible refine ld_mach ?_ (.tmp 8) ?_ W2.heap.size 0 ?_ m hm9 hwf ?_); exact rfl; exact rfl; exact rfl)
      refine (HTX.out _).mono ?_
      rintro e w5 ⟨rfl, hb5⟩
      rw [HTE.out]
      have hM5 := HM4.out.call hb5
      have hm10 := hM5.mach 0 rfl
      have ht := (hM5.at 2 rfl).there 0 m.cells.length (by simp only; rw [zero_len, HML2.out]; omega)
      have hM6 := hM5.setAll 2 rfl (vs := m.cells) (by rw [zero_len, HML2.out])
      simp only [List.set_cons_zero, List.set_cons_succ] at hM6
      have HB1 := Lib.hid (hM6.at 2 rfl)
      have HBL := Lib.hid hM6.below
      clear hm9 hb5 HM4 hM5 hM6
      go_wp2_with (first | ((with_reducible refine ld_mach ?_ (.tmp 8) ?_ W2.heap.size 0 ?_ m hm10 hwf ?_); exact rfl; exact rfl; exact rfl) | ((with_reducible refine st_row ?_ 25 (.tmp 2) (.tmp 96) ?_ w.heap.size 0 m.cells ?_ ?_ ht HIT.out HM1.out ?_); exact rfl; exact rfl; exact rfl; exact rfl))
      exact bodyPost_ret (v := .tuple #[.agg m.cells.toArray, .int .i64 0]) (results_cell_tmp Tryd.results16 _ _ w.heap.size 25 m.cells.toArray (0, 0) (.struct _) rfl HB1.out Tryd.underlying25 rfl (HIT.out.trans (by rw [List.size_toArray]))) rfl ⟨rfl, HBL.out⟩
end Go.Proofs.YthgkkaifdlkciaaDoor

/- KnownMachine of both sides. -/
namespace Go.Proofs.YthgkkaifdlkciaaDoor
open Go.RowKit
set_option linter.unusedVariables false
set_option linter.unusedSimpArgs false

theorem kt_knTx : ∀ k, k < 8 → kt k = knTx k := fun k hk => by
  rcases (by omega : k = 0 ∨ k = 1 ∨ k = 2 ∨ k = 3 ∨ k = 4 ∨ k = 5 ∨ k = 6 ∨ k = 7) with rfl | rfl | rfl | rfl | rfl | rfl | rfl | rfl <;> rfl
/-- the known machines -/
def knM (k : Nat) : Mch := prs (knTx k)
theorem knM_text {k : Nat} (h : k < 8) : TextOf (knM k) (kt k) := by rw [kt_knTx k h]; exact kn_text h
/-- what KnownMachine returns: the cells of a machine, and a code -/
noncomputable def kmC (s : ByteArray) : List Value := if kno s < 8 then (knM (kno s)).cells else Tryd.zeroCells25.toList
def kmK (s : ByteArray) : Int := if kno s < 8 then 0 else 4

/-- the text of a known machine -/
def l08T (s : ByteArray) : ByteArray := if kno s < 8 then kt (kno s) else ⟨#[]⟩
set_option maxRecDepth 100000 in
set_option maxHeartbeats 2000000 in
theorem l08Text2_any (s : ByteArray) (w : World) : Calls Tryd.prog 14 #[.string s] w fun e w' => e = .returned (.string (l08T s)) ∧ Below w.heap.size w w' := by
  by_cases h8 : ∃ i, i < 8 ∧ (s.toList == kn i) = true
  · obtain ⟨i, hi, h⟩ := h8
    have hk := Lib.hid (kno_of hi h)
    have e : s.toList = kn i := by simpa using h
    clear h
    go_enter Tryd.func14, Tryd.ntmps14
    rcases (by omega : i = 0 ∨ i = 1 ∨ i = 2 ∨ i = 3 ∨ i = 4 ∨ i = 5 ∨ i = 6 ∨ i = 7) with rfl | rfl | rfl | rfl | rfl | rfl | rfl | rfl <;>
    · simp only [kn] at e
      go_wp2_with fail
      go_ret
      exact ⟨by rw [l08T, hk.out]; rfl, Below.refl _ _⟩
  · have h : ∀ i, i < 8 → (s.toList == kn i) = false := fun i hi => by
      cases hh : s.toList == kn i
      · rfl
      · exact absurd ⟨i, hi, hh⟩ h8
    have hk := Lib.hid (kno_none h)
    have g0 := h 0 (by omega)
    have g1 := h 1 (by omega)
    have g2 := h 2 (by omega)
    have g3 := h 3 (by omega)
    have g4 := h 4 (by omega)
    have g5 := h 5 (by omega)
    have g6 := h 6 (by omega)
    have g7 := h 7 (by omega)
    simp only [kn] at g0 g1 g2 g3 g4 g5 g6 g7
    clear h h8
    go_enter Tryd.func14, Tryd.ntmps14
    go_wp2_with fail
    go_ret
    exact ⟨by rw [l08T, hk.out]; rfl, Below.refl _ _⟩

set_option maxRecDepth 100000 in
set_option maxHeartbeats 1000000 in
theorem l01Read_nil (w : World) : Calls Tryd.prog 13 #[.string ⟨#[]⟩] w (Ret (.tuple #[.agg Tryd.zeroCells25, .bool false]) w) := by
  have hM0 := (Mm.start w).alloc Tryd.zeroCells25 25
  have hz1 : ∀ v ∈ Tryd.zeroCells25.toList, v.oneCell' = true := List.all_eq_true.1 (by kernel_rfl)
  have hzi : (Tryd.prog.info? 25).map (·.size) = some Tryd.zeroCells25.toList.length := by rw [zero_len]; kernel_rfl
  have ht := (hM0.at 0 rfl).there 0 Tryd.zeroCells25.toList.length (by simp only; omega)
  have hM1 := hM0.setAll 0 rfl (vs := Tryd.zeroCells25.toList) rfl
  simp only [List.set_cons_zero] at hM1
  have HI := Lib.hid hzi
  have H1 := Lib.hid hz1
  have HB := Lib.hid (hM1.at 0 rfl)
  have HBL := Lib.hid hM1.below
  clear hM0 hM1 hz1 hzi
  go_enter Tryd.func13, Tryd.ntmps13
  go_wp2_with ((with_reducible refine st_row ?_ 25 (.tmp 2) (.tmp 28) ?_ w.heap.size 0 Tryd.zeroCells25.toList ?_ ?_ ht HI.out H1.out ?_); exact rfl; exact rfl; exact rfl; exact rfl)
  exact bodyPost_ret (v := .tuple #[.agg Tryd.zeroCells25, .bool false]) (results_cell_tmp Tryd.results13 _ _ w.heap.size 25 Tryd.zeroCells25 (0, 0) (.struct _) rfl HB.out Tryd.underlying25 rfl (HI.out.trans (by rw [Array.length_toList]))) rfl ⟨rfl, HBL.out⟩

set_option maxRecDepth 100000 in
set_option maxHeartbeats 1000000 in
theorem specKnownMachine_any (s : ByteArray) (w : World) : Calls Tryd.prog 5 #[.string s] w (Ret (.tuple #[.agg (kmC s).toArray, .int .i64 (kmK s)]) w) := by
  have hM0 := (Mm.start w).alloc Tryd.zeroCells25 25
  have HM0 := Lib.hid hM0
  have hz1 : ∀ v ∈ Tryd.zeroCells25.toList, v.oneCell' = true := List.all_eq_true.1 (by kernel_rfl)
  have hzi : (Tryd.prog.info? 25).map (·.size) = some Tryd.zeroCells25.toList.length := by rw [zero_len]; kernel_rfl
  have HZI := Lib.hid hzi
  have HZ1 := Lib.hid hz1
  clear hM0 hz1 hzi
  go_enter Tryd.func5, Tryd.ntmps5
  go_wp2_with fail
  refine (l08Text2_any s _).mono ?_
  rintro e w1 ⟨rfl, hb1⟩
  have hM1 := HM0.out.call hb1
  clear hb1 HM0
  by_cases hk : kno s < 8
  · have HC : Hid (kmC s = (knM (kno s)).cells ∧ kmK s = 0) := ⟨if_pos hk, if_pos hk⟩
    rw [l08T, if_pos hk]
    have HRD := Lib.hid (l01Read_any _ _ (knM_text hk))
    have hwf := (knM_text hk).wf
    clear hk
    generalize knM (kno s) = m at *
    generalize kt (kno s) = t at *
    have HIT := Lib.hid (mach_infoT hwf)
    have HM1 := Lib.hid (mach_ones m)
    have HML := Lib.hid (Mch.cells_length hwf)
    have HMM := Lib.hid hM1
    clear hM1
    go_wp2_with fail
    refine (HRD.out _).mono ?_
    rintro e w2 ⟨rfl, hb2⟩
    have hM2 := (HMM.out.call hb2).alloc Tryd.zeroCells25 25
    have ht := (hM2.at 0 rfl).there 0 m.cells.length (by simp only; rw [zero_len, HML.out]; omega)
    have hM3 := hM2.setAll 0 rfl (vs := m.cells) (by rw [zero_len, HML.out])
    simp only [List.set_cons_zero] at hM3
    have hm3 := hM3.mach 0 rfl
    have ht2 := (hM3.at 1 rfl).there 0 m.cells.length (by simp only; rw [zero_len, HML.out]; omega)
    have hM4 := hM3.setAll 1 rfl (vs := m.cells) (by rw [zero_len, HML.out])
    simp only [List.set_cons_zero, List.set_cons_succ] at hM4
    have HB1 := Lib.hid (hM4.at 1 rfl)
    have HBL := Lib.hid hM4.below
    clear hb2 HMM hM2 hM3 hM4 HRD
    go_wp2_with (first | ((with_reducible refine st_row ?_ 25 (.tmp 4) (.tmp 10) ?_ w2.heap.size 0 m.cells ?_ ?_ ht HIT.out HM1.out ?_); exact rfl; exact rfl; exact rfl; exact rfl) | ((with_reducible refine ld_mach ?_ (.tmp 4) ?_ w2.heap.size 0 ?_ m hm3 hwf ?_); exact rfl; exact rfl; exact rfl) | ((with_reducible refine st_row ?_ 25 (.tmp 2) (.tmp 15) ?_ w.heap.size 0 m.cells ?_ ?_ ht2 HIT.out HM1.out ?_); exact rfl; exact rfl; exact rfl; exact rfl))
    exact bodyPost_ret (v := .tuple #[.agg m.cells.toArray, .int .i64 0]) (results_cell_tmp Tryd.results5 _ _ w.heap.size 25 m.cells.toArray (0, 0) (.struct _) rfl HB1.out Tryd.underlying25 rfl (HIT.out.trans (by rw [List.size_toArray]))) rfl ⟨by rw [HC.out.1, HC.out.2], HBL.out⟩
  · have HC : Hid (kmC s = Tryd.zeroCells25.toList ∧ kmK s = 4) := ⟨if_neg hk, if_neg hk⟩
    rw [l08T, if_neg hk]
    have HMM := Lib.hid hM1
    clear hM1 hk
    go_wp2_with fail
    refine (l01Read_nil _).mono ?_
    rintro e w2 ⟨rfl, hb2⟩
    have hM2 := (HMM.out.call hb2).alloc Tryd.zeroCells25 25
    have ht := (hM2.at 0 rfl).there 0 Tryd.zeroCells25.toList.length (by simp only; omega)
    have hM3 := hM2.setAll 0 rfl (vs := Tryd.zeroCells25.toList) rfl
    simp only [List.set_cons_zero] at hM3
    have ht2 := (hM3.at 1 rfl).there 0 Tryd.zeroCells25.toList.length (by simp only; omega)
    have hM4 := hM3.setAll 1 rfl (vs := Tryd.zeroCells25.toList) rfl
    simp only [List.set_cons_zero, List.set_cons_succ] at hM4
    have HB1 := Lib.hid (hM4.at 1 rfl)
    have HBL := Lib.hid hM4.below
    clear hb2 HMM hM2 hM3 hM4
    go_wp2_with (first | ((with_reducible refine st_row ?_ 25 (.tmp 4) (.tmp 10) ?_ w2.heap.size 0 Tryd.zeroCells25.toList ?_ ?_ ht HZI.out HZ1.out ?_); exact rfl; exact rfl; exact rfl; exact rfl) | ((with_reducible refine st_row ?_ 25 (.tmp 2) (.tmp 14) ?_ w.heap.size 0 Tryd.zeroCells25.toList ?_ ?_ ht2 HZI.out HZ1.out ?_); exact rfl; exact rfl; exact rfl; exact rfl))
    exact bodyPost_ret (v := .tuple #[.agg Tryd.zeroCells25, .int .i64 4]) (results_cell_tmp Tryd.results5 _ _ w.heap.size 25 Tryd.zeroCells25 (0, 0) (.struct _) rfl HB1.out Tryd.underlying25 rfl (HZI.out.trans (by rw [Array.length_toList]))) rfl ⟨by rw [HC.out.1, HC.out.2], HBL.out⟩

theorem known_info (x y : ByteArray) (a : Option Addr) (l c : Nat) : (Tryd.prog.info? 42).map (·.size) = some [Value.string x, Value.string y, Value.slice a l c].length := by
  show _ = some 3; kernel_rfl

set_option maxRecDepth 100000 in
set_option maxHeartbeats 1000000 in
theorem implKnownMachine_any (s : ByteArray) (mx : Int) (w : World) (hml : w.cell? ⟨Tryd.lCut_ren.g 1, 0, none⟩ = some (.int .i64 mx)) : Calls Tryd.prog 6 #[.string s] w (Ret (.tuple #[.agg (kmC s).toArray, .int .i64 (kmK s)]) w) := by
  have hM0 := (Mm.start w).alloc Tryd.zeroCells25 25
  have HM0 := Lib.hid hM0
  have hlt0 : Tryd.lCut_ren.g 1 < w.heap.size := World.block_lt_of_cell? w _ hml
  have HML0 : Hid (∀ W, Below w.heap.size w W → W.cell? ⟨Tryd.lCut_ren.g 1, 0, none⟩ = some (.int .i64 mx)) := fun W hW => (hW.cell hlt0).trans hml
  have hz1 : ∀ v ∈ Tryd.zeroCells25.toList, v.oneCell' = true := List.all_eq_true.1 (by kernel_rfl)
  have hzi : (Tryd.prog.info? 25).map (·.size) = some Tryd.zeroCells25.toList.length := by rw [zero_len]; kernel_rfl
  have HZI := Lib.hid hzi
  have HZ1 := Lib.hid hz1
  clear hM0 hz1 hzi hml hlt0
  go_enter Tryd.func6, Tryd.ntmps6
  go_wp2_with fail
  refine (find_any s _).mono ?_
  rintro e w1 ⟨x, y, a, l, c, rfl, hb1, hO⟩
  have hM1 := (HM0.out.call hb1).alloc #[.string ⟨#[]⟩, .string ⟨#[]⟩, .slice none 0 0] 42
  have ht := (hM1.at 0 rfl).there 0 [Value.string x, Value.string y, Value.slice a l c].length (by simp)
  have hM2 := hM1.setAll 0 rfl (vs := [Value.string x, Value.string y, Value.slice a l c]) rfl
  simp only [List.set_cons_zero] at hM2
  have HKI := Lib.hid (known_info x y a l c)
  have HK1 : Hid (∀ v ∈ [Value.string x, Value.string y, Value.slice a l c], v.oneCell' = true) := by
    intro v hv
    simp only [List.mem_cons, List.not_mem_nil, or_false] at hv
    rcases hv with rfl | rfl | rfl <;> rfl
  have c1 := (hM2.at 0 rfl).cell' (i := 1) rfl
  have HMM := Lib.hid hM2
  clear hb1 HM0 hM1 hM2
  by_cases hk : kno s < 8
  · have HC : Hid (kmC s = (knM (kno s)).cells ∧ kmK s = 0) := ⟨if_pos hk, if_pos hk⟩
    have hy := (hO hk).1
    have HPM := Lib.hid (ParseMachine_any _ _ (knM_text hk) mx)
    have hwf := (knM_text hk).wf
    rw [← hy] at HPM
    rw [decide_eq_true hk]
    clear hk hO hy
    generalize knM (kno s) = m at *
    have HIT := Lib.hid (mach_infoT hwf)
    have HM1 := Lib.hid (mach_ones m)
    have HML := Lib.hid (Mch.cells_length hwf)
    go_wp2_with ((with_reducible refine st_row ?_ 42 (.tmp 4) (.tmp 9) ?_ w1.heap.size 0 [Value.string x, Value.string y, Value.slice a l c] ?_ ?_ ht HKI.out HK1.out ?_); exact rfl; exact rfl; exact rfl; exact rfl)
    refine (HPM.out _ (HML0.out _ HMM.out.below)).mono ?_
    rintro e w2 ⟨rfl, hb2⟩
    have hM2 := HMM.out.call hb2
    have ht2 := (hM2.at 1 rfl).there 0 m.cells.length (by simp only; rw [zero_len, HML.out]; omega)
    have hM4 := hM2.setAll 1 rfl (vs := m.cells) (by rw [zero_len, HML.out])
    simp only [List.set_cons_zero, List.set_cons_succ] at hM4
    have HB1 := Lib.hid (hM4.at 1 rfl)
    have HBL := Lib.hid hM4.below
    clear hb2 HMM hM2 hM4 HPM
    go_wp2_with ((with_reducible refine st_row ?_ 25 (.tmp 2) (.tmp 17) ?_ w.heap.size 0 m.cells ?_ ?_ ht2 HIT.out HM1.out ?_); exact rfl; exact rfl; exact rfl; exact rfl)
    exact bodyPost_ret (v := .tuple #[.agg m.cells.toArray, .int .i64 0]) (results_cell_tmp Tryd.results6 _ _ w.heap.size 25 m.cells.toArray (0, 0) (.struct _) rfl HB1.out Tryd.underlying25 rfl (HIT.out.trans (by rw [List.size_toArray]))) rfl ⟨by rw [HC.out.1, HC.out.2], HBL.out⟩
  · have HC : Hid (kmC s = Tryd.zeroCells25.toList ∧ kmK s = 4) := ⟨if_neg hk, if_neg hk⟩
    rw [decide_eq_false hk]
    have ht2 := (HMM.out.at 1 rfl).there 0 Tryd.zeroCells25.toList.length (by simp only; omega)
    have hM4 := HMM.out.setAll 1 rfl (vs := Tryd.zeroCells25.toList) rfl
    simp only [List.set_cons_zero, List.set_cons_succ] at hM4
    have HB1 := Lib.hid (hM4.at 1 rfl)
    have HBL := Lib.hid hM4.below
    clear hk hO hM4 HMM
    go_wp2_with (first | ((with_reducible refine st_row ?_ 42 (.tmp 4) (.tmp 9) ?_ w1.heap.size 0 [Value.string x, Value.string y, Value.slice a l c] ?_ ?_ ht HKI.out HK1.out ?_); exact rfl; exact rfl; exact rfl; exact rfl) | ((with_reducible refine st_row ?_ 25 (.tmp 2) (.tmp 13) ?_ w.heap.size 0 Tryd.zeroCells25.toList ?_ ?_ ht2 HZI.out HZ1.out ?_); exact rfl; exact rfl; exact rfl; exact rfl))
    exact bodyPost_ret (v := .tuple #[.agg Tryd.zeroCells25, .int .i64 4]) (results_cell_tmp Tryd.results6 _ _ w.heap.size 25 Tryd.zeroCells25 (0, 0) (.struct _) rfl HB1.out Tryd.underlying25 rfl (HZI.out.trans (by rw [Array.length_toList]))) rfl ⟨by rw [HC.out.1, HC.out.2], HBL.out⟩
end Go.Proofs.YthgkkaifdlkciaaDoor

/- A machine as a table. -/
namespace Go.Proofs.YthgkkaifdlkciaaDoor
open Go.RowKit
set_option linter.unusedVariables false
set_option linter.unusedSimpArgs false

end Go.Proofs.YthgkkaifdlkciaaDoor

/- What the laws do with slices of numbers and machines that come in: copies, sizes, comparisons. -/
namespace Go.Proofs.YthgkkaifdlkciaaDoor
open Go.RowKit
set_option linter.unusedVariables false
set_option linter.unusedSimpArgs false

set_option maxHeartbeats 1000000 in
theorem eqByteA3_same (x y z : Int) (w : World) :
    Calls Tryd.prog 31 #[.agg #[.int .u8 x, .int .u8 y, .int .u8 z], .agg #[.int .u8 x, .int .u8 y, .int .u8 z]] w (Ret (.bool true) w) := by
  go_enter Tryd.func31, Tryd.ntmps31
  go_wp2
  refine wp_loop_rounds 4 ?_
  rw [rounds_succ]
  go_wp2
  go_quiet (fail)
  go_wp2
  rw [rounds_succ]
  go_wp2
  go_quiet (fail)
  go_wp2
  rw [rounds_succ]
  go_wp2
  go_quiet (fail)
  go_wp2
  rw [rounds_succ]
  go_wp2
  go_ret
  refine ⟨rfl, ?_⟩
  have hb := ((Below.refl w.heap.size w).alloc (Nat.le_refl _) (.cells #[.int .u8 x, .int .u8 y, .int .u8 z] 22)).alloc (by simp) (.cells #[.int .u8 x, .int .u8 y, .int .u8 z] 22)
  first | exact hb.drew.drew.drew | exact below_dN hb _ | exact below_dN (below_dN hb _) _ | exact below_dN (below_dN (below_dN hb _) _) _ | trace_state
end Go.Proofs.YthgkkaifdlkciaaDoor

/- Equal machines; group words of the reference and of the program. -/
namespace Go.Proofs.YthgkkaifdlkciaaDoor
open Go.RowKit
set_option linter.unusedVariables false
set_option linter.unusedSimpArgs false

set_option maxRecDepth 100000 in
set_option maxHeartbeats 1000000 in
theorem eqByteA3A16_same (xs : List Int) (hx : xs.length = 48) (w : World) :
    Calls Tryd.prog 17 #[.agg (u8s xs).toArray, .agg (u8s xs).toArray] w (Ret (.bool true) w) := by
  have HX := Lib.hid hx
  clear hx
  have hA := (Blk.new w (u8s xs).toArray 23).alloc (.cells (u8s xs).toArray 23)
  have hB := Blk.new (w.alloc (.cells (u8s xs).toArray 23)) (u8s xs).toArray 23
  have hb0 := ((Below.refl w.heap.size w).alloc (Nat.le_refl _) (.cells (u8s xs).toArray 23)).alloc (by simp) (.cells (u8s xs).toArray 23)
  rw [show (w.alloc (.cells (u8s xs).toArray 23)).heap.size = w.heap.size + 1 by simp] at hB
  go_enter Tryd.func17, Tryd.ntmps17
  go_wp2
  go_loopw [5] (fun i wr => ∃ k : Nat, k ≤ 16 ∧ i = .int .i64 k ∧ Blk wr w.heap.size (u8s xs) 23 ∧ Blk wr (w.heap.size + 1) (u8s xs) 23 ∧ Below w.heap.size w wr) (fun i _ => 16 - (intOf i).toNat)
  case atStart => exact ⟨0, by omega, rfl, hA, hB, hb0⟩
  case round =>
    clear hA hB hb0
    obtain ⟨k, hk, rfl, hA, hB, hb⟩ := hrel
    by_cases hlt : k < 16
    · have hx := HX.out
      have a0 := hA.cell' (u8s_get (i := k * 3) (by omega))
      have a1 := hA.cell' (u8s_get (i := k * 3 + 1) (by omega))
      have a2 := hA.cell' (u8s_get (i := k * 3 + 2) (by omega))
      have b0 := hB.cell' (u8s_get (i := k * 3) (by omega))
      have b1 := hB.cell' (u8s_get (i := k * 3 + 1) (by omega))
      have b2 := hB.cell' (u8s_get (i := k * 3 + 2) (by omega))
      clear hx
      generalize xs[k * 3]?.getD 0 = x0 at *
      generalize xs[k * 3 + 1]?.getD 0 = x1 at *
      generalize xs[k * 3 + 2]?.getD 0 = x2 at *
      have i1 : (k : Int) < 16 := by omega
      have i2 : (0 : Int) ≤ (k : Int) := by omega
      go_wp2_with fail
      go_still_tail 6, (by kernel_rfl)
      change wpList _ _ _ _ _ wr.drew
      clear a0 a1 a2 b0 b1 b2
      go_wp2_with fail
      refine (eqByteA3_same _ _ _ _).mono ?_
      rintro e w1 ⟨rfl, hb1⟩
      have hA1 := (hA.drewN 1).keep hb1
      have hB1 := (hB.drewN 1).keep hb1
      have hbb := (below_dN hb 1).trans (hb1.mono (Nat.le_of_lt hA.lt))
      clear hA hB
      go_wp2_with fail
      go_roundw
      case rel => exact ⟨k + 1, by omega, by go_num, hA1, hB1, hbb⟩
      case measure => simp [intOf]; omega
    · go_wp2
      go_ret
      exact ⟨rfl, hb⟩

theorem MAt.rangeN {w : World} {b o : Nat} {m : Mch} (h : MAt w b o m) (hw : m.Wf) : w.rangeAt b (o + 2) (u8s m.N) := fun j v hv => by
  have hj : j < m.N.length := by have := (List.getElem?_eq_some_iff.1 hv).1; simpa [u8s] using this
  rw [Nat.add_assoc]
  refine h (2 + j) v ?_
  simp only [Mch.cells]
  rw [show 2 + j = j + 1 + 1 by omega, List.getElem?_cons_succ, List.getElem?_cons_succ, List.getElem?_map, List.getElem?_append_left hj, ← List.getElem?_map]
  exact hv
theorem MAt.rangeO {w : World} {b o : Nat} {m : Mch} (h : MAt w b o m) (hw : m.Wf) : w.rangeAt b (o + 50) (u8s m.O) := fun j v hv => by
  have hj : j < m.O.length := by have := (List.getElem?_eq_some_iff.1 hv).1; simpa [u8s] using this
  have e := hw.nl
  rw [Nat.add_assoc]
  refine h (50 + j) v ?_
  simp only [Mch.cells]
  rw [show 50 + j = (48 + j) + 1 + 1 by omega, List.getElem?_cons_succ, List.getElem?_cons_succ, List.getElem?_map, List.getElem?_append_right (by omega), show 48 + j - m.N.length = j by omega, ← List.getElem?_map]
  exact hv

set_option maxRecDepth 100000 in
set_option maxHeartbeats 1000000 in
theorem eqMachine_same (m : Mch) (hw : m.Wf) (w : World) :
    Calls Tryd.prog 7 #[.agg m.cells.toArray, .agg m.cells.toArray] w (Ret (.bool true) w) := by
  have hA : MAt ((w.alloc (.cells m.cells.toArray 25)).alloc (.cells m.cells.toArray 25)) w.heap.size 0 m := (MAt.boxed w m 25).alloc (by simp) _
  have hB : MAt ((w.alloc (.cells m.cells.toArray 25)).alloc (.cells m.cells.toArray 25)) (w.heap.size + 1) 0 m := by
    have := MAt.boxed (w.alloc (.cells m.cells.toArray 25)) m 25
    rwa [show (w.alloc (.cells m.cells.toArray 25)).heap.size = w.heap.size + 1 by simp] at this
  have hb0 := ((Below.refl w.heap.size w).alloc (Nat.le_refl _) (.cells m.cells.toArray 25)).alloc (by simp) (.cells m.cells.toArray 25)
  have hN : Hid ((Tryd.prog.info? 23).map (·.size) = some (u8s m.N).length) := by show _ = _; rw [show (u8s m.N).length = 48 by simp [u8s, hw.nl]]; kernel_rfl
  have hO : Hid ((Tryd.prog.info? 23).map (·.size) = some (u8s m.O).length) := by show _ = _; rw [show (u8s m.O).length = 48 by simp [u8s, hw.ol]]; kernel_rfl
  have HW := Lib.hid hw
  go_enter Tryd.func7, Tryd.ntmps7
  have l1 := hA.l
  have l2 := hB.l
  have s1 := hA.s
  have s2 := hB.s
  have r1 := hA.rangeN hw
  have r2 := hB.rangeN hw
  go_wp2_with (first | ((with_reducible refine ld_row ?_ 23 (.tmp 15) ?_ w.heap.size 2 ?_ (u8s m.N) (.array 16 22) r1 Tryd.underlying23 ?_ hN.out ?_); exact rfl; exact rfl; exact rfl; exact rfl) | ((with_reducible refine ld_row ?_ 23 (.tmp 17) ?_ (w.heap.size + 1) 2 ?_ (u8s m.N) (.array 16 22) r2 Tryd.underlying23 ?_ hN.out ?_); exact rfl; exact rfl; exact rfl; exact rfl))
  refine (eqByteA3A16_same m.N HW.out.nl _).mono ?_
  rintro e w1 ⟨rfl, hb1⟩
  have hA1 := hA.below hb1 (by simp; omega)
  have hB1 := hB.below hb1 (by simp)
  have hbb := hb0.trans (hb1.mono hb0.size)
  have r3 := hA1.rangeO HW.out
  have r4 := hB1.rangeO HW.out
  clear l1 l2 s1 s2 r1 r2 hA hB
  go_wp2_with (first | ((with_reducible refine ld_row ?_ 23 (.tmp 21) ?_ w.heap.size 50 ?_ (u8s m.O) (.array 16 22) r3 Tryd.underlying23 ?_ hO.out ?_); exact rfl; exact rfl; exact rfl; exact rfl) | ((with_reducible refine ld_row ?_ 23 (.tmp 23) ?_ (w.heap.size + 1) 50 ?_ (u8s m.O) (.array 16 22) r4 Tryd.underlying23 ?_ hO.out ?_); exact rfl; exact rfl; exact rfl; exact rfl))
  refine (eqByteA3A16_same m.O HW.out.ol _).mono ?_
  rintro e w2 ⟨rfl, hb2⟩
  have hbb2 := hbb.trans (hb2.mono hbb.size)
  go_wp2_with fail
  go_ret
  exact ⟨rfl, hbb2⟩

end Go.Proofs.YthgkkaifdlkciaaDoor

/- IsGroupWord; desks: sizes, copies, comparisons; IsDesk of both sides. -/
namespace Go.Proofs.YthgkkaifdlkciaaDoor
open Go.RowKit
set_option linter.unusedVariables false
set_option linter.unusedSimpArgs false

/-! Desks -/
def dcells (m : Mch) (u v : Value) : List Value := m.cells ++ [u, v]
theorem dcells_length {m : Mch} (h : m.Wf) (u v : Value) : (dcells m u v).length = 100 := by simp [dcells, Mch.cells_length h]
/-- a desk lies at block b from 0 on -/
def DAt (w : World) (b : Nat) (m : Mch) (u v : Value) : Prop := w.rangeAt b 0 (dcells m u v)
theorem DAt.mach {w : World} {b : Nat} {m : Mch} {u v : Value} (h : DAt w b m u v) : MAt w b 0 m := fun j x hj => h j x (by
  have : j < m.cells.length := (List.getElem?_eq_some_iff.1 hj).1
  rw [dcells, List.getElem?_append_left this]; exact hj)
theorem DAt.fst {w : World} {b : Nat} {m : Mch} {u v : Value} (h : DAt w b m u v) (hw : m.Wf) : w.cell? ⟨b, 98, none⟩ = some u := by
  have := h 98 u (by rw [dcells, List.getElem?_append_right (by rw [Mch.cells_length hw]; omega), Mch.cells_length hw]; rfl)
  simpa using this
theorem DAt.snd {w : World} {b : Nat} {m : Mch} {u v : Value} (h : DAt w b m u v) (hw : m.Wf) : w.cell? ⟨b, 99, none⟩ = some v := by
  have := h 99 v (by rw [dcells, List.getElem?_append_right (by rw [Mch.cells_length hw]; omega), Mch.cells_length hw]; rfl)
  simpa using this
theorem DAt.boxed (w : World) (m : Mch) (u v : Value) (T : Nat) : DAt (w.alloc (.cells (dcells m u v).toArray T)) w.heap.size m u v := fun j x hj => by
  rw [World.cell?_alloc_at _ _ _ _ rfl]; simpa using hj
theorem DAt.below {w w' : World} {b : Nat} {m : Mch} {u v : Value} (h : DAt w b m u v) {B : Nat} (hb : Below B w w') (hlt : b < B) : DAt w' b m u v :=
  fun j x hj => (hb.cell (p := ⟨b, 0 + j, none⟩) hlt).trans (h j x hj)
/-- a slice value of numbers that reads as xs -/
def SlI (w : World) (v : Value) (xs : List Int) : Prop := ∃ a c, v = .slice a xs.length c ∧ IntsAt w a xs
end Go.Proofs.YthgkkaifdlkciaaDoor

/- Copies and comparisons of desks. -/
namespace Go.Proofs.YthgkkaifdlkciaaDoor
open Go.RowKit
set_option linter.unusedVariables false
set_option linter.unusedSimpArgs false

theorem mcells_one {m : Mch} : ∀ v ∈ m.cells, v.oneCell' = true := fun v hv => by
  simp only [Mch.cells, List.mem_cons, List.mem_map] at hv
  rcases hv with rfl | rfl | ⟨z, _, rfl⟩ <;> rfl
set_option maxRecDepth 100000 in
set_option maxHeartbeats 1000000 in
theorem eqDesk_same (m : Mch) (hwf : m.Wf) (u v u' v' : Value) (xs ys : List Int) (hx : xs.length ≤ 2000000) (hy : ys.length ≤ 2000000) (w : World) (hu : SlI w u xs) (hv : SlI w v ys) (hu' : SlI w u' xs) (hv' : SlI w v' ys) :
    Calls Tryd.prog 10 #[.agg (dcells m u v).toArray, .agg (dcells m u' v').toArray] w (Ret (.bool true) w) := by
  obtain ⟨a, c, rfl, hI⟩ := hu
  obtain ⟨b, d, rfl, hJ⟩ := hv
  obtain ⟨a', c', rfl, hI'⟩ := hu'
  obtain ⟨b', d', rfl, hJ'⟩ := hv'
  obtain ⟨D, hDD⟩ : ∃ D, D = dcells m (.slice a xs.length c) (.slice b ys.length d) := ⟨_, rfl⟩
  obtain ⟨D', hDD'⟩ : ∃ D, D = dcells m (.slice a' xs.length c') (.slice b' ys.length d') := ⟨_, rfl⟩
  rw [← hDD, ← hDD']
  have hM := ((Mm.start w).alloc D.toArray 32).alloc D'.toArray 32
  rw [show (w.alloc (.cells D.toArray 32)).heap.size = w.heap.size + 1 by simp, List.toList_toArray, List.toList_toArray] at hM
  have hA : ∀ W, Below (w.heap.size + 1 + 1) ((w.alloc (.cells D.toArray 32)).alloc (.cells D'.toArray 32)) W → DAt W w.heap.size m (.slice a xs.length c) (.slice b ys.length d) := fun W hW => by
    have := (hM.at 1 rfl).all
    simp only [hDD] at this hW ⊢
    exact DAt.below this hW (by omega)
  have hB : ∀ W, Below (w.heap.size + 1 + 1) ((w.alloc (.cells D.toArray 32)).alloc (.cells D'.toArray 32)) W → DAt W (w.heap.size + 1) m (.slice a' xs.length c') (.slice b' ys.length d') := fun W hW => by
    have := (hM.at 0 rfl).all
    simp only [hDD'] at this hW ⊢
    exact DAt.below this hW (by omega)
  have HA := Lib.hid hA
  have HB := Lib.hid hB
  have HI := Lib.hid hI
  have HJ := Lib.hid hJ
  have HI' := Lib.hid hI'
  have HJ' := Lib.hid hJ'
  have HW := Lib.hid hwf
  clear hA hB hI hJ hI' hJ' hDD hDD'
  have hsz : ((w.alloc (.cells D.toArray 32)).alloc (.cells D'.toArray 32)).heap.size = w.heap.size + 1 + 1 := by simp
  have HSZ := Lib.hid hsz
  clear hsz
  have hm1 := (HA.out _ (Below.refl _ _)).mach
  have hm2 := (HB.out _ (Below.refl _ _)).mach
  have hbM := hM.below
  clear hM
  go_enter Tryd.func10, Tryd.ntmps10
  go_wp2_with (first | ((with_reducible refine ld_mach ?_ (.tmp 5) ?_ (w.heap.size) (0) ?_ m hm1 hwf ?_); exact rfl; exact rfl; exact rfl) | ((with_reducible refine ld_mach ?_ (.tmp 7) ?_ ((w.heap.size + 1)) (0) ?_ m hm2 hwf ?_); exact rfl; exact rfl; exact rfl))
  refine (eqMachine_same m hwf _).mono ?_
  rintro e w1 ⟨rfl, hb1⟩
  have hbb1 := hbM.trans (hb1.mono (by simp; omega))
  have e1 := (HA.out w1 (by have := HSZ.out; rw [this] at hb1; exact hb1)).fst HW.out
  have e2 := (HB.out w1 (by have := HSZ.out; rw [this] at hb1; exact hb1)).fst HW.out
  clear hm1 hm2
  go_wp2_with fail
  refine (eqI_same a a' c c' xs hx _ (HI.out.below hbb1) (HI'.out.below hbb1)).mono ?_
  rintro e w2 ⟨rfl, hb2⟩
  have hbb2 := hbb1.trans (hb2.mono hbb1.size)
  have hs1 : w.heap.size + 1 + 1 ≤ w1.heap.size := by have := HSZ.out; have := hb1.size; omega
  have e3 := (HA.out w2 (by have := HSZ.out; rw [this] at hb1; exact hb1.trans (hb2.mono hs1))).snd HW.out
  have e4 := (HB.out w2 (by have := HSZ.out; rw [this] at hb1; exact hb1.trans (hb2.mono hs1))).snd HW.out
  clear e1 e2
  go_wp2_with fail
  refine (eqI_same b b' d d' ys hy _ (HJ.out.below hbb2) (HJ'.out.below hbb2)).mono ?_
  rintro e w3 ⟨rfl, hb3⟩
  have hbb3 := hbb2.trans (hb3.mono hbb2.size)
  clear e3 e4
  go_wp2_with fail
  go_ret
  exact ⟨rfl, hbb3⟩
end Go.Proofs.YthgkkaifdlkciaaDoor

/- Structs built of wide parts. -/
namespace Go.Proofs.YthgkkaifdlkciaaDoor
open Go.RowKit
set_option linter.unusedVariables false
set_option linter.unusedSimpArgs false
theorem fold_splice (off : Nat) : ∀ (vs : List Value) (cs : Array Value) (k : Nat), ((vs.zipIdx k).foldl (fun (cs : Array Value) x => cs.setIfInBounds (off + x.2) x.1) cs).toList = splice cs.toList (off + k) vs
  | [], cs, k => rfl
  | v :: r, cs, k => by
    rw [List.zipIdx_cons, List.foldl_cons, fold_splice off r _ (k + 1), splice]
    simp [Nat.add_assoc]
theorem fill_step (place : Nat → Option (Nat × Nat)) (cells : Array Value) (i : Nat) (v : Value) (rest : List (Nat × Value)) (off size : Nat) (hp : place i = some (off, size)) (hs : v.cells.size = size) (hb : off + size ≤ cells.size) :
    Instr.fill place cells ((i, v) :: rest) = Instr.fill place (splice cells.toList off v.cells.toList).toArray rest := by
  rw [Instr.fill, hp]
  simp only
  rw [if_neg (by simp [hs]; omega)]
  congr 1
  rw [← Array.toList_inj]
  have h := fold_splice off v.cells.toList cells 0
  rw [Nat.add_zero] at h
  rw [List.toList_toArray, ← h, ← Array.foldl_toList, Array.toList_zipIdx]
theorem run_bld {t : TypeId} {parts : Array (Nat × Operand)} {cells : Array Value} {a : Act} {op : Oper} {ps : List (Nat × Value)} (ho : op.op = .build t parts) {w : World} (h' : Tryd.prog.built t ps = some cells) (hp : (parts.toList.map fun x => (x.1, a.eval x.2)) = ps) :
    (execOp a.eval op).run Tryd.prog w = .ok (.value (.agg cells)) w := by
  have h : Tryd.prog.built t (parts.map fun (i, x) => (i, a.eval x)).toList = some cells := by rw [Array.toList_map, ← h', ← hp]
  unfold execOp
  simp only [ho]
  simp [run_build w t _ cells h]
theorem splice_app (pre mid post vs : List Value) (h : vs.length = mid.length) : splice (pre ++ (mid ++ post)) pre.length vs = pre ++ (vs ++ post) := by
  apply List.ext_getElem?
  intro i
  rw [splice_get]
  simp only [List.length_append]
  by_cases c : pre.length ≤ i ∧ i < pre.length + vs.length ∧ i < pre.length + (mid.length + post.length)
  · rw [if_pos c, List.getElem?_append_right c.1, List.getElem?_append_left (by omega)]
  · rw [if_neg c]
    by_cases c1 : i < pre.length
    · rw [List.getElem?_append_left c1, List.getElem?_append_left c1]
    · rw [List.getElem?_append_right (by omega), List.getElem?_append_right (by omega)]
      by_cases c2 : i - pre.length < vs.length
      · exfalso; omega
      · rw [List.getElem?_append_right (by omega), List.getElem?_append_right (by omega), h]
/-- a struct is built: the walk's step -/
theorem bd_row {ops : Array Oper} {rest : List Oper} {o : Oper} {a : Act} {w : World} {Q : Exit → Act → World → Prop} (hwd : Region.wanted o (yielded ops a.tmps) = true) (T : TypeId) (parts : Array (Nat × Operand)) (ps : List (Nat × Value)) (cs : List Value) (ho : o.op = .build T parts)
    (hp : (parts.toList.map fun x => (x.1, a.eval x.2)) = ps) (hb : Tryd.prog.built T ps = some cs.toArray)
    (h : wpList Tryd.prog ops Q rest (a.put o.dst (.agg cs.toArray)) w) : wpList Tryd.prog ops Q (o :: rest) a w :=
  BigFrame.wpList_want hwd fun K hK => by
    unfold Oper.wp
    rw [run_bld ho hb hp]
    exact hK _ _ h
end Go.Proofs.YthgkkaifdlkciaaDoor
