import Derived.Test.YthgkkaifdlkciaaDoorYNd03
import Derived.Test.YthgkkaifdlkciaaDoorYNd02
import Derived.Shelf.Strings.OnBuilder
import Derived.Test.YthgkkaifdlkciaaDoorYNd01
import Derived.Shelf.Strings.Cut
import Derived.Shelf.Strings.Split
/- l01Read. -/
namespace Go.Proofs.YthgkkaifdlkciaaDoor
open Go.RowKit
set_option linter.unusedVariables false
set_option linter.unusedSimpArgs false

theorem zeroM_set (m : Mch) : ((Tryd.zeroCells25.setIfInBounds 0 (.int .i64 m.L)).setIfInBounds 1 (.int .i64 m.S)) = (rdM m 0 0 0).cells.toArray := by
  apply Array.toList_inj.1
  rw [zero98, rdM_none]; rfl
/-- a cell of a slice of one's own -/
theorem Mm.readV {B : Nat} {w0 w : World} {L : List (Nat × List Value × TypeId)} {G : List (Value × TypeId × List Value)} (h : Mm B w0 w L G) (i : Nat) {v : Value} {E : TypeId} {xs : List Value} (hi : G[i]? = some (v, E, xs)) (h0 : 0 < xs.length) :
    ∃ g c, v = .slice (some ⟨g, 0, none⟩) xs.length c ∧ ∀ k u, xs[k]? = some u → w.cell? ⟨g, k, none⟩ = some u := by
  have ho := h.own _ (mem_of_get hi)
  simp only at ho
  rcases id ho.2 with ⟨e, hn⟩ | ⟨g, cap, cur, e, -⟩
  · omega
  · refine ⟨g, cap, e, fun k u hk => ?_⟩
    have := World.ownsRow.cells ho (g := g) (by rw [e]; rfl) k _ hk
    rwa [show (⟨g, 0, none⟩ : Addr).add k = ⟨g, k, none⟩ by unfold Addr.add; split <;> simp_all] at this

set_option maxRecDepth 100000 in
set_option maxHeartbeats 2000000 in
theorem l01Read_any (m : Mch) (t : ByteArray) (ht : TextOf m t) (w : World) :
    Calls Tryd.prog 13 #[.string t] w (Ret (.tuple #[.agg m.cells.toArray, .bool true]) w) := by
  have hok := mach_ok ht.mach
  have hwf := ht.wf
  have hs16 := hok.s_le
  have hs1 := hok.s_pos
  have hl2 := hok.l_ge
  have hl3 := hok.l_le
  have HMX := Lib.hid (show Tryd.prog.follows .mixedOrders = true by kernel_rfl)
  have hsz := ht.size
  have h2 : 2 < t.size + 1 := by omega
  have a0' : (t[0]'(by omega)).toNat = 48 + m.l := by rw [← ht.at0, getElem!_pos t 0 (by omega)]
  have a1 : (t[1]'(by omega)).toNat = 58 := by rw [← ht.at1, getElem!_pos t 1 (by omega)]
  have HX := Lib.hid ht.ext
  have HRL : Hid ((rsB m).size ≤ 100000) := by
    show _ ≤ _
    rw [← ht.ext, ByteArray.size_extract]; omega
  have HSP := Lib.hid (l01Split_any (rsB m) 44 HRL.out)
  have HS2 := Lib.hid ht.spl2
  have HIS := Lib.hid (l01Is_any m hwf)
  have HMT := Lib.hid ht.mach
  have HRA := Lib.hid (rdM_all hwf ht.mach)
  have hM0 := (Mm.start w).alloc Tryd.zeroCells25 25
  have HM0 := Lib.hid hM0
  clear hM0 ht
  have hl23 : m.l = 2 ∨ m.l = 3 := by omega
  have HLE := Lib.hid hok.L_eq
  rcases hl23 with hml | hml
  all_goals
    first | (have a0 : (t[0]'(by omega)).toNat = 50 := by omega) | (have a0 : (t[0]'(by omega)).toNat = 51 := by omega)
    have HML := Lib.hid hml
    clear hml a0'
    go_enter Tryd.func13, Tryd.ntmps13
    go_wp2_with fail
    rw [HX.out]
    refine (HSP.out _).mono ?_
    rintro e w2 ⟨v, rfl, hM'⟩
    rw [HS2.out] at hM'
    have hM1 := HM0.out.callOwn hM'.below (hM'.own _ (List.mem_cons_self ..)) rfl
    have hrl : (stS (rowsB m)).length = m.s := by simp [stS, rowsB]
    obtain ⟨gv, cv, rfl, hcv⟩ := hM1.readV 0 (v := v) (E := 9) (xs := stS (rowsB m)) rfl (by rw [hrl]; omega)
    rw [hrl] at hM1 ⊢
    have HCV : Hid (∀ q, q < m.s → w2.cell? ⟨gv, q, none⟩ = some (.string (rowB m q))) := fun q hq => hcv q _ (by simp [stS, rowsB, hq])
    have hM2 := hM1.alloc Tryd.zeroCells25 25
    have hw0 := rdM_wf hok hwf (q := 0) (x := 0) (z := 0) (.inr ⟨by omega, rfl, rfl⟩)
    have hlen := Mch.cells_length hw0
    have ht5 := (hM2.at 0 rfl).there 0 (rdM m 0 0 0).cells.length (by simp only; rw [zero_len, hlen]; omega)
    have hM3 := hM2.setAll 0 rfl (vs := (rdM m 0 0 0).cells) (by rw [zero_len, hlen])
    simp only [List.set_cons_zero] at hM3
    have HIM := Lib.hid (mach_infoT hw0)
    have H1 := Lib.hid (mach_ones (rdM m 0 0 0))
    have HST := Lib.hid (zeroM_set m)
    have HM3 := Lib.hid hM3
    have HLS : Hid (m.S = (m.s : Int) ∧ m.L = (m.l : Int)) := ⟨hok.S_eq, hok.L_eq⟩
    have s16 : ¬ ((16 : Int) < (m.s : Int)) := by omega
    have HLT : Hid (gv < w2.heap.size) := World.block_lt_of_cell? w2 _ (HCV.out 0 (by omega))
    clear hM' hM1 hM2 hM3 hcv hrl hw0 hlen HM0 HSP HX HS2
    go_wp2_with ((with_reducible refine st_row ?_ 25 (.tmp 5) (.tmp 38) ?_ w2.heap.size 0 (rdM m 0 0 0).cells ?_ ?_ ht5 HIM.out H1.out ?_); exact rfl; exact rfl; exact rfl; (rw [← HST.out, HLS.out.1, HLS.out.2, HML.out]; exact rfl))
    clear ht5 HIM H1 HST a0 a1
    go_loopw [6] (fun qv wr => ∃ q : Nat, q ≤ m.s ∧ qv = .int .i64 (q : Int) ∧ Mm w.heap.size w wr [(w2.heap.size, (rdM m q 0 0).cells, 25), (w.heap.size, Tryd.zeroCells25.toList, 25)] [(.slice (some ⟨gv, 0, none⟩) m.s cv, 9, stS (rowsB m))]) (fun qv _ => m.s - (intOf qv).toNat)
    case atStart => exact ⟨0, Nat.zero_le _, rfl, HM3.out⟩
    case round =>
      clear HM3
      obtain ⟨q, hq, rfl, hM⟩ := hrel
      have eq : IntKind.i64.wrap ((q : Int) + 1) = (q : Int) + 1 := IntWalk.i64_in _ (by omega)
      by_cases hlt : q < m.s
      · have q1 : (0 : Int) ≤ (q : Int) := by omega
        have q2 : (q : Int) < 16 := by omega
        have q3 : (q : Int) < (m.s : Int) := by omega
        have hrs := rowB_size m q
        have e2 : IntKind.i64.wrap (2 * (m.l : Int)) = 2 * (m.l : Int) := IntWalk.i64_in _ (by omega)
        have hrz : ((rowB m q).size : Int) = 2 * (m.l : Int) := by rw [hrs]; omega
        have HCS : Hid (∀ W x z, Mm w.heap.size w W [(w2.heap.size, (rdM m q x z).cells, 25), (w.heap.size, Tryd.zeroCells25.toList, 25)] [(.slice (some ⟨gv, 0, none⟩) m.s cv, 9, stS (rowsB m))] → W.cell? ⟨gv, q, none⟩ = some (.string (rowB m q)) ∧ W.cell? ⟨w2.heap.size, 0, none⟩ = some (.int .i64 (m.l : Int))) := fun W x z h => by
          have cl := (h.mach 0 rfl).l
          have cr := (h.own _ (List.mem_cons_self ..))
          have := World.ownsRow.cells cr (g := gv) rfl q (.string (rowB m q)) (by simp [stS, rowsB, hlt])
          rw [show (⟨gv, 0, none⟩ : Addr).add q = ⟨gv, q, none⟩ by unfold Addr.add; split <;> simp_all] at this
          exact ⟨this, by rw [← HLE.out]; exact cl⟩
        have HMd := Lib.hid hM.drew
        have HRG : Hid (∀ x, x < m.l → ∀ h1 h2, ((rowB m q)[2 * x]'h1).toNat = 48 + m.on q x ∧ ((rowB m q)[2 * x + 1]'h2).toNat = 97 + m.nn q x) := fun x hx h1 h2 => rowB_get hok hwf hlt hx h1 h2
        clear hM
        generalize hr : rowB m q = r at *
        clear hr
        go_wp2_with fail
        refine region_A (fun W => W.cell? ⟨gv, q, none⟩ = some (.string r) ∧ W.cell? ⟨w2.heap.size, 0, none⟩ = some (.int .i64 (m.l : Int))) [] 9 (fun W => Mm w.heap.size w W [(w2.heap.size, (rdM m q 0 0).cells, 25), (w.heap.size, Tryd.zeroCells25.toList, 25)] [(.slice (some ⟨gv, 0, none⟩) m.s cv, 9, stS (rowsB m))]) rfl HMX.out HMd.out (fun W h => HCS.out W _ _ h) (fun W hM hU => ?_)
        clear HMd
        (refine AnyS.take (i := 0) rfl (by kernel_rfl) (by kernel_rfl) (by kernel_rfl) (by rfl) (fun _ _ _ h => h) (by rfl) (by intro w; go_simp; with_reducible rfl) hU (fun hU => ?_); (try simp only [Act.put, List.setIfInBounds_toArray, List.set_cons_zero, List.set_cons_succ]); refine AnyS.take (i := 1) rfl (by kernel_rfl) (by kernel_rfl) (by kernel_rfl) (by rfl) (fun _ _ _ h => h) (by rfl) (by intro w; go_simp; with_reducible rfl) hU (fun hU => ?_); (try simp only [Act.put, List.setIfInBounds_toArray, List.set_cons_zero, List.set_cons_succ]); refine AnyS.take (i := 2) rfl (by kernel_rfl) (by kernel_rfl) (by kernel_rfl) (by rfl) (fun _ _ _ h => h) (by rfl) (by intro w; go_simp; with_reducible rfl) hU (fun hU => ?_); (try simp only [Act.put, List.setIfInBounds_toArray, List.set_cons_zero, List.set_cons_succ]))
        (refine AnyS.takeS (i := 3) rfl (by kernel_rfl) (by kernel_rfl) (by kernel_rfl) (by rfl) (by kernel_rfl) (by kernel_rfl) (fun _ _ _ h => h) (by rfl) (by intro W hSw; have h1 := hSw.1; clear hSw; go_simp; with_reducible rfl) hU (fun hU => ?_); (try simp only [Act.put, List.setIfInBounds_toArray, List.set_cons_zero, List.set_cons_succ]))
        (refine AnyS.take (i := 4) rfl (by kernel_rfl) (by kernel_rfl) (by kernel_rfl) (by rfl) (fun _ _ _ h => h) (by rfl) (by intro w; go_simp; with_reducible rfl) hU (fun hU => ?_); (try simp only [Act.put, List.setIfInBounds_toArray, List.set_cons_zero, List.set_cons_succ]); refine AnyS.take (i := 5) rfl (by kernel_rfl) (by kernel_rfl) (by kernel_rfl) (by rfl) (fun _ _ _ h => h) (by rfl) (by intro w; go_simp; with_reducible rfl) hU (fun hU => ?_); (try simp only [Act.put, List.setIfInBounds_toArray, List.set_cons_zero, List.set_cons_succ]))
        (refine AnyS.takeS (i := 6) rfl (by kernel_rfl) (by kernel_rfl) (by kernel_rfl) (by rfl) (by kernel_rfl) (by kernel_rfl) (fun _ _ _ h => h) (by rfl) (by intro W hSw; have h1 := hSw.2; clear hSw; go_simp; with_reducible rfl) hU (fun hU => ?_); (try simp only [Act.put, List.setIfInBounds_toArray, List.set_cons_zero, List.set_cons_succ]))
        (refine AnyS.take (i := 7) rfl (by kernel_rfl) (by kernel_rfl) (by kernel_rfl) (by rfl) (fun _ _ _ h => h) (by rfl) (by intro w; go_simp; with_reducible rfl) hU (fun hU => ?_); (try simp only [Act.put, List.setIfInBounds_toArray, List.set_cons_zero, List.set_cons_succ]); refine AnyS.take (i := 8) rfl (by kernel_rfl) (by kernel_rfl) (by kernel_rfl) (by rfl) (fun _ _ _ h => h) (by rfl) (by intro w; go_simp; with_reducible rfl) hU (fun hU => ?_); (try simp only [Act.put, List.setIfInBounds_toArray, List.set_cons_zero, List.set_cons_succ]))
        refine AnyS.done (by kernel_rfl) ?_ _
        clear hU
        have j1 : ((r.size : Int) != 2 * (m.l : Int)) = false := by rw [hrz]; simp
        go_wp2_with fail
        clear j1
        go_loopw [7] (fun xv wr => ∃ x : Nat, x ≤ m.l ∧ xv = .int .i64 (x : Int) ∧ Mm w.heap.size w wr [(w2.heap.size, (rdM m q x x).cells, 25), (w.heap.size, Tryd.zeroCells25.toList, 25)] [(.slice (some ⟨gv, 0, none⟩) m.s cv, 9, stS (rowsB m))]) (fun xv _ => m.l - (intOf xv).toNat)
        case atStart => exact ⟨0, Nat.zero_le _, rfl, hM⟩
        case round =>
          clear hM
          obtain ⟨x, hx, rfl, hM⟩ := hrel
          have ex : IntKind.i64.wrap ((x : Int) + 1) = (x : Int) + 1 := IntWalk.i64_in _ (by omega)
          have cl := (HCS.out _ _ _ hM).2
          by_cases hxl : x < m.l
          · have x1 : (0 : Int) ≤ (x : Int) := by omega
            have x2 : (x : Int) < 3 := by omega
            have x3 : (x : Int) < (m.l : Int) := by omega
            have hg := HRG.out x hxl (by omega) (by omega)
            have e3 : IntKind.i64.wrap (2 * (x : Int)) = 2 * (x : Int) := IntWalk.i64_in _ (by omega)
            have e4 : IntKind.i64.wrap (2 * (x : Int) + 1) = 2 * (x : Int) + 1 := IntWalk.i64_in _ (by omega)
            have x4 : (0 : Int) ≤ 2 * (x : Int) := by omega
            have x5 : 2 * (x : Int) < (r.size : Int) := by omega
            have x6 : (0 : Int) ≤ 2 * (x : Int) + 1 := by omega
            have x7 : 2 * (x : Int) + 1 < (r.size : Int) := by omega
            have x8 : 2 * (x : Int) + 1 < 2 * (m.l : Int) := by omega
            have x9 : 2 * (x : Int) < 2 * (m.l : Int) := by omega
            have HMd := Lib.hid hM.drew
            have HG := Lib.hid hg
            clear hM hg
            go_wp2_with fail
            clear cl
            refine region_A (fun W => W.cell? ⟨gv, q, none⟩ = some (.string r) ∧ W.cell? ⟨w2.heap.size, 0, none⟩ = some (.int .i64 (m.l : Int))) [] 17 (fun W => Mm w.heap.size w W [(w2.heap.size, (rdM m q x x).cells, 25), (w.heap.size, Tryd.zeroCells25.toList, 25)] [(.slice (some ⟨gv, 0, none⟩) m.s cv, 9, stS (rowsB m))]) rfl HMX.out HMd.out (fun W h => HCS.out W _ _ h) (fun W hM hU => ?_)
            clear HMd
            (refine AnyS.take (i := 0) rfl (by kernel_rfl) (by kernel_rfl) (by kernel_rfl) (by rfl) (fun _ _ _ h => h) (by rfl) (by intro w; go_simp; with_reducible rfl) hU (fun hU => ?_); (try simp only [Act.put, List.setIfInBounds_toArray, List.set_cons_zero, List.set_cons_succ]); refine AnyS.take (i := 1) rfl (by kernel_rfl) (by kernel_rfl) (by kernel_rfl) (by rfl) (fun _ _ _ h => h) (by rfl) (by intro w; go_simp; with_reducible rfl) hU (fun hU => ?_); (try simp only [Act.put, List.setIfInBounds_toArray, List.set_cons_zero, List.set_cons_succ]); refine AnyS.take (i := 2) rfl (by kernel_rfl) (by kernel_rfl) (by kernel_rfl) (by rfl) (fun _ _ _ h => h) (by rfl) (by intro w; go_simp; with_reducible rfl) hU (fun hU => ?_); (try simp only [Act.put, List.setIfInBounds_toArray, List.set_cons_zero, List.set_cons_succ]))
            (refine AnyS.takeS (i := 3) rfl (by kernel_rfl) (by kernel_rfl) (by kernel_rfl) (by rfl) (by kernel_rfl) (by kernel_rfl) (fun _ _ _ h => h) (by rfl) (by intro W hSw; have h1 := hSw.1; clear hSw; go_simp; with_reducible rfl) hU (fun hU => ?_); (try simp only [Act.put, List.setIfInBounds_toArray, List.set_cons_zero, List.set_cons_succ]))
            (refine AnyS.take (i := 4) rfl (by kernel_rfl) (by kernel_rfl) (by kernel_rfl) (by rfl) (fun _ _ _ h => h) (by rfl) (by intro w; go_simp; with_reducible rfl) hU (fun hU => ?_); (try simp only [Act.put, List.setIfInBounds_toArray, List.set_cons_zero, List.set_cons_succ]); refine AnyS.take (i := 5) rfl (by kernel_rfl) (by kernel_rfl) (by kernel_rfl) (by rfl) (fun _ _ _ h => h) (by rfl) (by intro w; go_simp; with_reducible rfl) hU (fun hU => ?_); (try simp only [Act.put, List.setIfInBounds_toArray, List.set_cons_zero, List.set_cons_succ]); refine AnyS.take (i := 6) rfl (by kernel_rfl) (by kernel_rfl) (by kernel_rfl) (by rfl) (fun _ _ _ h => h) (by rfl) (by intro w; go_simp; with_reducible rfl) hU (fun hU => ?_); (try simp only [Act.put, List.setIfInBounds_toArray, List.set_cons_zero, List.set_cons_succ]); refine AnyS.take (i := 7) rfl (by kernel_rfl) (by kernel_rfl) (by kernel_rfl) (by rfl) (fun _ _ _ h => h) (by rfl) (by intro w; go_simp; with_reducible rfl) hU (fun hU => ?_); (try simp only [Act.put, List.setIfInBounds_toArray, List.set_cons_zero, List.set_cons_succ]); refine AnyS.take (i := 8) rfl (by kernel_rfl) (by kernel_rfl) (by kernel_rfl) (by rfl) (fun _ _ _ h => h) (by rfl) (by intro w; go_simp; with_reducible rfl) hU (fun hU => ?_); (try simp only [Act.put, List.setIfInBounds_toArray, List.set_cons_zero, List.set_cons_succ]); refine AnyS.take (i := 9) rfl (by kernel_rfl) (by kernel_rfl) (by kernel_rfl) (by rfl) (fun _ _ _ h => h) (by rfl) (by intro w; go_simp; with_reducible rfl) hU (fun hU => ?_); (try simp only [Act.put, List.setIfInBounds_toArray, List.set_cons_zero, List.set_cons_succ]))
            (refine AnyS.takeS (i := 10) rfl (by kernel_rfl) (by kernel_rfl) (by kernel_rfl) (by rfl) (by kernel_rfl) (by kernel_rfl) (fun _ _ _ h => h) (by rfl) (by intro W hSw; have h1 := hSw.1; clear hSw; go_simp; with_reducible rfl) hU (fun hU => ?_); (try simp only [Act.put, List.setIfInBounds_toArray, List.set_cons_zero, List.set_cons_succ]))
            (refine AnyS.take (i := 11) rfl (by kernel_rfl) (by kernel_rfl) (by kernel_rfl) (by rfl) (fun _ _ _ h => h) (by rfl) (by intro w; go_simp; with_reducible rfl) hU (fun hU => ?_); (try simp only [Act.put, List.setIfInBounds_toArray, List.set_cons_zero, List.set_cons_succ]); refine AnyS.take (i := 12) rfl (by kernel_rfl) (by kernel_rfl) (by kernel_rfl) (by rfl) (fun _ _ _ h => h) (by rfl) (by intro w; go_simp; with_reducible rfl) hU (fun hU => ?_); (try simp only [Act.put, List.setIfInBounds_toArray, List.set_cons_zero, List.set_cons_succ]); refine AnyS.take (i := 13) rfl (by kernel_rfl) (by kernel_rfl) (by kernel_rfl) (by rfl) (fun _ _ _ h => h) (by rfl) (by intro w; go_simp; with_reducible rfl) hU (fun hU => ?_); (try simp only [Act.put, List.setIfInBounds_toArray, List.set_cons_zero, List.set_cons_succ]); refine AnyS.take (i := 14) rfl (by kernel_rfl) (by kernel_rfl) (by kernel_rfl) (by rfl) (fun _ _ _ h => h) (by rfl) (by intro w; go_simp; with_reducible rfl) hU (fun hU => ?_); (try simp only [Act.put, List.setIfInBounds_toArray, List.set_cons_zero, List.set_cons_succ]); refine AnyS.take (i := 15) rfl (by kernel_rfl) (by kernel_rfl) (by kernel_rfl) (by rfl) (fun _ _ _ h => h) (by rfl) (by intro w; go_simp; with_reducible rfl) hU (fun hU => ?_); (try simp only [Act.put, List.setIfInBounds_toArray, List.set_cons_zero, List.set_cons_succ]); refine AnyS.take (i := 16) rfl (by kernel_rfl) (by kernel_rfl) (by kernel_rfl) (by rfl) (fun _ _ _ h => h) (by rfl) (by intro w; go_simp; with_reducible rfl) hU (fun hU => ?_); (try simp only [Act.put, List.setIfInBounds_toArray, List.set_cons_zero, List.set_cons_succ]))
            refine AnyS.done (by kernel_rfl) ?_ _
            clear hU
            have g1 : ∀ h, ((r[(2 * (x : Int)).toNat]'h).toNat : Int) = 48 + (m.on q x : Int) := fun h => by
              have h1 := HG.out.1
              have e : (2 * (x : Int)).toNat = 2 * x := by omega
              simp only [e]; omega
            have g2 : ∀ h, ((r[(2 * (x : Int) + 1).toNat]'h).toNat : Int) = 97 + (m.nn q x : Int) := fun h => by
              have h1 := HG.out.2
              have e : (2 * (x : Int) + 1).toNat = 2 * x + 1 := by omega
              simp only [e]; omega
            rw [g1, g2]
            have hn := hok.nn_lt hwf hlt hxl
            have ho := hok.on_lt hwf hlt hxl
            have hw1 := rdM_wf hok hwf (q := q) (x := x) (z := x) (.inl hlt)
            have hw2 := rdM_wf hok hwf (q := q) (x := x) (z := x + 1) (.inl hlt)
            have d1 := (hM.mach 0 rfl).oo hw1 (q := q) (x := x) (by omega) (by omega)
            have f1 := (hM.at 0 rfl).free (50 + q * 3 + x)
            have hM4 := hM.setCell 0 rfl (50 + q * 3 + x) (.int .u8 (m.on q x : Int))
            simp only [List.set_cons_zero] at hM4
            rw [rdM_setO hl3 (by omega) hxl] at hM4
            have d2 := (hM4.mach 0 rfl).nn hw2 (q := q) (x := x) (by omega) (by omega)
            have f2 := (hM4.at 0 rfl).free (2 + q * 3 + x)
            have hM5 := hM4.setCell 0 rfl (2 + q * 3 + x) (.int .u8 (m.nn q x : Int))
            simp only [List.set_cons_zero] at hM5
            rw [rdM_setN hl3 (by omega) hxl] at hM5
            have D1 : Hid (∃ u, W.cell? ⟨w2.heap.size, 50 + q * 3 + x, none⟩ = some (.int .u8 u)) := ⟨_, by simpa using d1⟩
            have D2 : Hid (∃ u, (W.setCell ⟨w2.heap.size, 50 + q * 3 + x, none⟩ (.int .u8 (m.on q x : Int))).cell? ⟨w2.heap.size, 2 + q * 3 + x, none⟩ = some (.int .u8 u)) := ⟨_, by simpa using d2⟩
            obtain ⟨v1, d1⟩ := D1.out
            obtain ⟨v2, d2⟩ := D2.out
            have HM5 := Lib.hid hM5
            have o1 : ¬ (48 + (m.on q x : Int) < 48) := by omega
            have o2 : ¬ ((50 : Int) < 48 + (m.on q x : Int)) := by omega
            have n1 : ¬ (97 + (m.nn q x : Int) < 97) := by omega
            have n2 : ¬ ((112 : Int) < 97 + (m.nn q x : Int)) := by omega
            have u1 : IntKind.u8.wrap (48 + (m.on q x : Int) - 48) = (m.on q x : Int) := by rw [show (48 + (m.on q x : Int) - 48) = (m.on q x : Int) by omega]; exact IntWalk.u8_in _ ⟨by omega, by omega⟩
            have u2 : IntKind.u8.wrap (97 + (m.nn q x : Int) - 97) = (m.nn q x : Int) := by rw [show (97 + (m.nn q x : Int) - 97) = (m.nn q x : Int) by omega]; exact IntWalk.u8_in _ ⟨by omega, by omega⟩
            clear g1 g2 hM hM4 hM5 hw1 hw2 HG D1 D2 hn ho x4 x5 x6 x7 x8 x9 e3 e4
            generalize m.on q x = oq at *
            generalize m.nn q x = nq at *
            go_wp2_with fail
            go_roundw
            case rel => exact ⟨x + 1, by omega, by go_num, HM5.out⟩
            case measure => simp [intOf] <;> omega
          · obtain rfl : x = m.l := by omega
            have x3 : ¬ ((m.l : Int) < (m.l : Int)) := by omega
            rw [rdM_row] at hM
            have HM := Lib.hid hM
            clear hM
            go_wp2_with fail
            go_roundw
            case rel => exact ⟨q + 1, by omega, by go_num, HM.out⟩
            case measure => simp [intOf] <;> omega
      · obtain rfl : q = m.s := by omega
        have q3 : ¬ ((m.s : Int) < (m.s : Int)) := by omega
        rw [HRA.out] at hM
        have HMd := Lib.hid hM.drew
        have HMI := Lib.hid (mach_infoT hwf)
        have HIT := Lib.hid (mach_infoT hwf)
        have HM1 := Lib.hid (mach_ones m)
        have HML2 := Lib.hid (Mch.cells_length hwf)
        clear hM
        go_wp2_with fail
        refine region_A (fun W => MAt W w2.heap.size 0 m) [] 5 (fun W => Mm w.heap.size w W [(w2.heap.size, m.cells, 25), (w.heap.size, Tryd.zeroCells25.toList, 25)] [(.slice (some ⟨gv, 0, none⟩) m.s cv, 9, stS (rowsB m))]) rfl HMX.out HMd.out (fun W h => h.mach 0 rfl) (fun W hM hU => ?_)
        clear HMd
        (refine AnyS.takeS (i := 0) rfl (by kernel_rfl) (by kernel_rfl) (by kernel_rfl) (by rfl) (by kernel_rfl) (by kernel_rfl) (fun _ _ _ h => h) (by rfl) (fun W hW => run_ld Tryd.underlying25 rfl HMI.out (.tmp 5) rfl rfl hW) hU (fun hU => ?_); (try simp only [Act.put, List.setIfInBounds_toArray, List.set_cons_zero, List.set_cons_succ]))
        (refine AnyS.takeS (i := 1) rfl (by kernel_rfl) (by kernel_rfl) (by kernel_rfl) (by rfl) (by kernel_rfl) (by kernel_rfl) (fun _ _ _ h => h) (by rfl) (fun W hW => run_ld Tryd.underlying25 rfl HMI.out (.tmp 5) rfl rfl hW) hU (fun hU => ?_); (try simp only [Act.put, List.setIfInBounds_toArray, List.set_cons_zero, List.set_cons_succ]))
        (refine AnyS.branch (rs := [2]) (by kernel_rfl) (List.cons_ne_nil _ _) ?_; refine AllS.cons rfl ?_ AllS.nil; intro K hK)
        go_simp
        refine (HIS.out _).mono ?_
        rintro e w4 ⟨rfl, hb4⟩
        have hM4 := hM.call hb4
        refine hK.out _ _ (.inl (hM4.mach 0 rfl)) (fun hU => ?_)
        clear hK K hM hb4
        rw [HMT.out]
        (try simp only [Act.put, List.setIfInBounds_toArray, List.set_cons_zero, List.set_cons_succ])
        have ht := (hM4.at 1 rfl).there 0 m.cells.length (by simp only; rw [zero_len, HML2.out]; omega)
        have hM5 := hM4.setAll 1 rfl (vs := m.cells) (by rw [zero_len, HML2.out])
        simp only [List.set_cons_zero, List.set_cons_succ] at hM5
        (refine AnyS.branch (rs := [3]) (by kernel_rfl) (List.cons_ne_nil _ _) ?_; refine AllS.cons rfl ?_ AllS.nil; intro K hK)
        refine ite_of (by kernel_rfl) ?_
        refine wp_st 25 (.tmp 2) (.tmp 109) rfl w.heap.size 0 m.cells rfl rfl ht HIT.out HM1.out ?_
        refine hK.out _ _ (.inl (hM5.mach 0 rfl)) (fun hU => ?_)
        clear hK K ht hM4
        (try simp only [Act.put, List.setIfInBounds_toArray, List.set_cons_zero, List.set_cons_succ])
        (refine AnyS.take (i := 4) rfl (by kernel_rfl) (by kernel_rfl) (by kernel_rfl) (by rfl) (fun _ _ _ h => h) (by rfl) (by intro w; go_simp; with_reducible rfl) hU (fun hU => ?_); (try simp only [Act.put, List.setIfInBounds_toArray, List.set_cons_zero, List.set_cons_succ]))
        refine AnyS.done (by kernel_rfl) ?_ _
        clear hU
        generalize w4.setCells w.heap.size 0 m.cells = W2 at *
        have HB1 := Lib.hid (hM5.at 1 rfl)
        have HBL := Lib.hid hM5.below
        clear hM5
        go_wp2_with fail
        exact bodyPost_ret (v := .tuple #[.agg m.cells.toArray, .bool true]) (results_cell_tmp Tryd.results13 _ _ w.heap.size 25 m.cells.toArray (0, 0) (.struct _) rfl HB1.out Tryd.underlying25 rfl (HIT.out.trans (by rw [List.size_toArray]))) rfl ⟨rfl, HBL.out⟩
end Go.Proofs.YthgkkaifdlkciaaDoor

/- strings.Join, laid. -/
namespace Go.Proofs.YthgkkaifdlkciaaDoor
open Go.Shelf
def Tryd.lJoin_ren : Go.Shelf.Ren := ⟨fun | 156 => 40 | 165 => 45 | 166 => 46 | 169 => 47 | 240 => 55 | 241 => 56 | 276 => 60 | 277 => 61 | n => n, fun | 31 => 40 | 9 => 9 | 3 => 3 | 4 => 4 | 0 => 0 | 20 => 20 | 72 => 72 | 76 => 76 | 70 => 70 | 37 => 63 | 75 => 75 | 127 => 85 | 164 => 89 | 5 => 5 | 80 => 78 | n => n, fun | n => n⟩
theorem Tryd.lJoin : Go.Proofs.Lays.n156 Tryd.prog Tryd.lJoin_ren := {
  mixed := by kernel_rfl,
  f156 := Tryd.func40.trans (congrArg some (by kernel_rfl)),
  f165 := Tryd.func45.trans (congrArg some (by kernel_rfl)),
  f166 := Tryd.func46.trans (congrArg some (by kernel_rfl)),
  f169 := Tryd.func47.trans (congrArg some (by kernel_rfl)),
  f240 := Tryd.func55.trans (congrArg some (by kernel_rfl)),
  f241 := Tryd.func56.trans (congrArg some (by kernel_rfl)),
  f276 := Tryd.func60.trans (congrArg some (by kernel_rfl)),
  f277 := Tryd.func61.trans (congrArg some (by kernel_rfl)),
  t0 := Tryd.underlying0,
  a0 := Tryd.isAgg0,
  z0 := Tryd.sizeOf0,
  v0 := Tryd.zeroValue0,
  t3 := Tryd.underlying3,
  a3 := Tryd.isAgg3,
  z3 := Tryd.sizeOf3,
  v3 := Tryd.zeroValue3,
  t4 := Tryd.underlying4,
  a4 := Tryd.isAgg4,
  z4 := Tryd.sizeOf4,
  v4 := Tryd.zeroValue4,
  t9 := Tryd.underlying9,
  a9 := Tryd.isAgg9,
  z9 := Tryd.sizeOf9,
  v9 := Tryd.zeroValue9,
  t20 := Tryd.underlying20,
  a20 := Tryd.isAgg20,
  z20 := Tryd.sizeOf20,
  v20 := Tryd.zeroValue20,
  t31 := Tryd.underlying40,
  a31 := Tryd.isAgg40,
  z31 := Tryd.sizeOf40,
  v31 := Tryd.zeroValue40,
  t37 := Tryd.underlying63,
  a37 := Tryd.isAgg63,
  z37 := Tryd.sizeOf63,
  v37 := Tryd.zeroValue63,
  t70 := Tryd.underlying70,
  a70 := Tryd.isAgg70,
  z70 := Tryd.sizeOf70,
  v70 := Tryd.zeroValue70,
  t72 := Tryd.underlying72,
  a72 := Tryd.isAgg72,
  z72 := Tryd.sizeOf72,
  v72 := Tryd.zeroValue72,
  t75 := Tryd.underlying75,
  a75 := Tryd.isAgg75,
  z75 := Tryd.sizeOf75,
  v75 := Tryd.zeroValue75,
  t76 := Tryd.underlying76,
  a76 := Tryd.isAgg76,
  z76 := Tryd.sizeOf76,
  v76 := Tryd.zeroValue76,
  t127 := Tryd.underlying85,
  a127 := Tryd.isAgg85,
  z127 := Tryd.sizeOf85,
  v127 := Tryd.zeroValue85,
  t164 := Tryd.underlying89,
  a164 := Tryd.isAgg89,
  z164 := Tryd.sizeOf89,
  v164 := Tryd.zeroValue89 }
end Go.Proofs.YthgkkaifdlkciaaDoor

/- machineText. -/
namespace Go.Proofs.YthgkkaifdlkciaaDoor
open Go.RowKit
set_option linter.unusedVariables false
set_option linter.unusedSimpArgs false

theorem mk_str (n : Nat) (hn : n ≤ 100000) (u : World) : (Instr.makeSlice 40 (.int .i64 (n : Int)) (.int .i64 (n : Int))).run Tryd.prog u =
    .ok (.slice (some ⟨u.heap.size, 0, none⟩) n n) (u.alloc (.cells (madeCells #[.string ByteArray.empty] n) 9)) := by
  obtain ⟨i0, hi, hz0, hz1, hz2⟩ := info_parts infoStr
  have h := run_make (P := Tryd.prog) u 40 9 i0 (.string ByteArray.empty) Tryd.underlying40 hi hz0 .i64 .i64 (n : Int) (n : Int) (by omega) (Int.le_refl _) (by rw [hz2]; omega) (by omega)
  simpa [hz1, Value.cells] using h
/-- the rows of the first k states, the rest empty -/
def rowsZ (m : Mch) (n k : Nat) : List Value := (List.range n).map fun q => .string (if q < k then rowB m q else ByteArray.empty)
theorem made_str (m : Mch) (n : Nat) : (madeCells #[Value.string ByteArray.empty] n).toList = rowsZ m n 0 := by
  simp only [madeCells, Array.toList_map, Array.toList_range, rowsZ]
  exact List.map_congr_left fun x _ => by simp [Nat.mod_one]
theorem rowsZ_len (m : Mch) (n k : Nat) : (rowsZ m n k).length = n := by simp [rowsZ]
theorem rowsZ_get (m : Mch) {n k q : Nat} (h : q < n) : (rowsZ m n k)[q]? = some (.string (if q < k then rowB m q else ByteArray.empty)) := by simp [rowsZ, h]
theorem rowsZ_set (m : Mch) {n k : Nat} (h : k < n) : (rowsZ m n k).set k (.string (rowB m k)) = rowsZ m n (k + 1) := by
  apply List.ext_getElem?
  intro i
  by_cases hi : i < n
  · by_cases e : i = k
    · subst e
      rw [List.getElem?_set_self (by rw [rowsZ_len]; exact hi), rowsZ_get m hi, if_pos (by omega)]
    · rw [List.getElem?_set_ne (Ne.symm e), rowsZ_get m hi, rowsZ_get m hi]
      by_cases c : i < k
      · rw [if_pos c, if_pos (by omega)]
      · rw [if_neg c, if_neg (by omega)]
  · rw [List.getElem?_eq_none (by rw [List.length_set, rowsZ_len]; omega), List.getElem?_eq_none (by rw [rowsZ_len]; omega)]
theorem rowsZ_all (m : Mch) : rowsZ m m.s m.s = stS (rowsB m) := by
  simp only [rowsZ, stS, rowsB, List.map_map]
  exact List.map_congr_left fun q hq => by simp [List.mem_range.1 hq]
theorem builderX : Go.Proofs.Builder.Extra Tryd.prog Tryd.lJoin_ren := { sizeBuilder := by kernel_rfl, liesBuilder := by kernel_rfl, t5 := Tryd.underlying5, a5 := Tryd.isAgg5, z5 := Tryd.sizeOf5, v5 := Tryd.zeroValue5, infoByte := by kernel_rfl, cellsByte := by kernel_rfl, sizeByte := by kernel_rfl, neB5 := by decide }
theorem rowI_len (m : Mch) (q : Nat) : (rowI m q).length = 2 * m.l := rowU_len m q m.l

set_option maxRecDepth 100000 in
set_option maxHeartbeats 2000000 in
theorem machineText_any (m : Mch) (hwf : m.Wf) (hok : m.Ok) (hsz : (rsB m).size ≤ 100000) (w : World) :
    Calls Tryd.prog 30 #[.agg m.cells.toArray] w (Ret (.string (mtB m)) w) := by
  obtain ⟨i0, hi0, hz0, hz1, hz2⟩ := info_parts Tryd.info5
  have hs16 := hok.s_le
  have hs1 := hok.s_pos
  have hl2 := hok.l_ge
  have hl3 := hok.l_le
  have HMX := Lib.hid (show Tryd.prog.follows .mixedOrders = true by kernel_rfl)
  have hM0 := (Mm.start w).alloc m.cells.toArray 25
  have cs := (hM0.mach 0 rfl).s
  rw [hok.S_eq] at cs
  have hmk := mk_str m.s (by omega) (w.alloc (.cells m.cells.toArray 25))
  have hM1 := hM0.alloc (madeCells #[.string ByteArray.empty] m.s) 9
  rw [made_str m, World.size_alloc] at hM1
  have HM1 := Lib.hid hM1
  have HHW := Lib.hid hwf
  have HEQ := Lib.hid hok.L_eq
  have cs2 := (hM1.mach 1 rfl).s
  rw [hok.S_eq] at cs2
  clear hM0 hM1
  go_enter Tryd.func30, Tryd.ntmps30
  go_wp2_with fail
  clear hmk cs cs2
  go_loopw [12] (fun qv wr => ∃ q : Nat, q ≤ m.s ∧ qv = .int .i64 (q : Int) ∧ Mm w.heap.size w wr [(w.heap.size + 1, rowsZ m m.s q, 9), (w.heap.size, m.cells, 25)] []) (fun qv _ => m.s - (intOf qv).toNat)
  case atStart => exact ⟨0, Nat.zero_le _, rfl, HM1.out⟩
  case round =>
    clear HM1
    obtain ⟨q, hq, rfl, hM⟩ := hrel
    have eq : IntKind.i64.wrap ((q : Int) + 1) = (q : Int) + 1 := IntWalk.i64_in _ (by omega)
    by_cases hlt : q < m.s
    · have q1 : (0 : Int) ≤ (q : Int) := by omega
      have q2 : (q : Int) < 16 := by omega
      have q3 : (q : Int) < (m.s : Int) := by omega
      have cl := (hM.mach 1 rfl).l
      rw [hok.L_eq] at cl
      have HM := Lib.hid (hM.addNil 5)
      clear hM
      go_wp2_with fail
      clear cl
      go_loopw [5, 17] (fun v xv wr => ∃ x : Nat, x ≤ m.l ∧ xv = .int .i64 (x : Int) ∧ Mm w.heap.size w wr [(w.heap.size + 1, rowsZ m m.s q, 9), (w.heap.size, m.cells, 25)] [(v, 5, u8s (rowU m q x))]) (fun _ xv _ => m.l - (intOf xv).toNat)
      case atStart => exact ⟨0, Nat.zero_le _, rfl, HM.out⟩
      case round =>
        clear HM
        obtain ⟨x, hx, rfl, hM⟩ := hrel
        have ex : IntKind.i64.wrap ((x : Int) + 1) = (x : Int) + 1 := IntWalk.i64_in _ (by omega)
        by_cases hxl : x < m.l
        · have x1 : (0 : Int) ≤ (x : Int) := by omega
          have x2 : (x : Int) < 3 := by omega
          have x3 : (x : Int) < (m.l : Int) := by omega
          have hn := hok.nn_lt hwf hlt hxl
          have ho := hok.on_lt hwf hlt hxl
          have HOE := Lib.hid (hok.o_eq hwf hlt hxl)
          have HNE := Lib.hid (hok.n_eq hwf hlt hxl)
          have HRU : Hid (u8s (rowU m q (x + 1)) = u8s (rowU m q x) ++ [.int .u8 (48 + (m.on q x : Int)), .int .u8 (97 + (m.nn q x : Int))]) := by
            show _ = _; rw [rowU_succ]; simp [u8s]
          have HRL : Hid ((u8s (rowU m q x)).length ≤ 1000000) := by show _ ≤ _; simp only [u8s, List.length_map, rowU_len]; omega
          have HCN : Hid (∀ W v xs, Mm w.heap.size w W [(w.heap.size + 1, rowsZ m m.s q, 9), (w.heap.size, m.cells, 25)] [(v, 5, xs)] → W.cell? ⟨w.heap.size, 2 + q * 3 + x, none⟩ = some (.int .u8 (m.nn q x : Int))) := fun W v xs h => by
            have := (h.mach 1 rfl).nn hwf (q := q) (x := x) (by omega) (by omega)
            rw [HNE.out] at this
            simpa using this
          have u2 : IntKind.u8.wrap (97 + (m.nn q x : Int)) = 97 + (m.nn q x : Int) := IntWalk.u8_in _ ⟨by omega, by omega⟩
          have HOB : Hid ((m.on q x : Int) < 3) := by show _ < _; omega
          have HMd := Lib.hid hM.drew
          clear hM hn ho
          go_wp2_with fail
          refine region_A (fun W => W.cell? ⟨w.heap.size, 2 + q * 3 + x, none⟩ = some (.int .u8 (m.nn q x : Int))) [] 15 (fun W => Mm w.heap.size w W [(w.heap.size + 1, rowsZ m m.s q, 9), (w.heap.size, m.cells, 25)] [(u5, 5, u8s (rowU m q x))]) rfl HMX.out HMd.out (fun W h => HCN.out W _ _ h) (fun W hM hU => ?_)
          clear HMd
          (refine AnyS.take (i := 0) rfl (by kernel_rfl) (by kernel_rfl) (by kernel_rfl) (by rfl) (fun _ _ _ h => h) (by rfl) (by intro w; go_simp; with_reducible rfl) hU (fun hU => ?_); (try simp only [Act.put, List.setIfInBounds_toArray, List.set_cons_zero, List.set_cons_succ]); refine AnyS.take (i := 1) rfl (by kernel_rfl) (by kernel_rfl) (by kernel_rfl) (by rfl) (fun _ _ _ h => h) (by rfl) (by intro w; go_simp; with_reducible rfl) hU (fun hU => ?_); (try simp only [Act.put, List.setIfInBounds_toArray, List.set_cons_zero, List.set_cons_succ]); refine AnyS.take (i := 2) rfl (by kernel_rfl) (by kernel_rfl) (by kernel_rfl) (by rfl) (fun _ _ _ h => h) (by rfl) (by intro w; go_simp; with_reducible rfl) hU (fun hU => ?_); (try simp only [Act.put, List.setIfInBounds_toArray, List.set_cons_zero, List.set_cons_succ]); refine AnyS.take (i := 5) rfl (by kernel_rfl) (by kernel_rfl) (by kernel_rfl) (by rfl) (fun _ _ _ h => h) (by rfl) (by intro w; go_simp; with_reducible rfl) hU (fun hU => ?_); (try simp only [Act.put, List.setIfInBounds_toArray, List.set_cons_zero, List.set_cons_succ]); refine AnyS.take (i := 6) rfl (by kernel_rfl) (by kernel_rfl) (by kernel_rfl) (by rfl) (fun _ _ _ h => h) (by rfl) (by intro w; go_simp; with_reducible rfl) hU (fun hU => ?_); (try simp only [Act.put, List.setIfInBounds_toArray, List.set_cons_zero, List.set_cons_succ]); refine AnyS.take (i := 7) rfl (by kernel_rfl) (by kernel_rfl) (by kernel_rfl) (by rfl) (fun _ _ _ h => h) (by rfl) (by intro w; go_simp; with_reducible rfl) hU (fun hU => ?_); (try simp only [Act.put, List.setIfInBounds_toArray, List.set_cons_zero, List.set_cons_succ]); refine AnyS.take (i := 8) rfl (by kernel_rfl) (by kernel_rfl) (by kernel_rfl) (by rfl) (fun _ _ _ h => h) (by rfl) (by intro w; go_simp; with_reducible rfl) hU (fun hU => ?_); (try simp only [Act.put, List.setIfInBounds_toArray, List.set_cons_zero, List.set_cons_succ]); refine AnyS.take (i := 9) rfl (by kernel_rfl) (by kernel_rfl) (by kernel_rfl) (by rfl) (fun _ _ _ h => h) (by rfl) (by intro w; go_simp; with_reducible rfl) hU (fun hU => ?_); (try simp only [Act.put, List.setIfInBounds_toArray, List.set_cons_zero, List.set_cons_succ]))
          (refine AnyS.takeS (i := 10) rfl (by kernel_rfl) (by kernel_rfl) (by kernel_rfl) (by rfl) (by kernel_rfl) (by kernel_rfl) (fun _ _ _ h => h) (by rfl) (by intro W hSw; have h1 := hSw; clear hSw; go_simp; with_reducible rfl) hU (fun hU => ?_); (try simp only [Act.put, List.setIfInBounds_toArray, List.set_cons_zero, List.set_cons_succ]))
          (refine AnyS.take (i := 11) rfl (by kernel_rfl) (by kernel_rfl) (by kernel_rfl) (by rfl) (fun _ _ _ h => h) (by rfl) (by intro w; go_simp; with_reducible rfl) hU (fun hU => ?_); (try simp only [Act.put, List.setIfInBounds_toArray, List.set_cons_zero, List.set_cons_succ]))
          (refine AnyS.branch (rs := [3]) (by kernel_rfl) (List.cons_ne_nil _ _) ?_; refine AllS.cons rfl ?_ AllS.nil; intro K hK)
          go_simp
          refine (out_any w.heap.size 0 m hwf q x (by omega) (by omega) _ (hM.mach 1 rfl)).mono ?_
          rintro e w' ⟨rfl, rfl⟩
          refine hK.out _ _ (.inl (HCN.out _ _ _ hM)) (fun hU => ?_)
          clear hK K
          rw [Int.toNat_natCast, Int.toNat_natCast, HOE.out]
          (try simp only [Act.put, List.setIfInBounds_toArray, List.set_cons_zero, List.set_cons_succ])
          (refine AnyS.branch (rs := [4]) (by kernel_rfl) (List.cons_ne_nil _ _) ?_; refine AllS.cons rfl ?_ AllS.nil; intro K hK)
          go_simp
          refine (letter_any _ (by omega) (by have := HOB.out; omega) _).mono ?_
          rintro e w' ⟨rfl, rfl⟩
          refine hK.out _ _ (.inl (HCN.out _ _ _ hM)) (fun hU => ?_)
          clear hK K
          (try simp only [Act.put, List.setIfInBounds_toArray, List.set_cons_zero, List.set_cons_succ])
          have hba : Below W.heap.size W (W.alloc (.cells #[.int .u8 (48 + (m.on q x : Int)), .int .u8 (97 + (m.nn q x : Int))] 5)) := (Below.refl _ _).alloc (Nat.le_refl _) _
          have hM2 := hM.call hba
          have hnew : (W.alloc (.cells #[.int .u8 (48 + (m.on q x : Int)), .int .u8 (97 + (m.nn q x : Int))] 5)).ownsRow 0 5 1 (.slice (some ⟨W.heap.size, 0, none⟩) 2 2) 2 [.int .u8 (48 + (m.on q x : Int)), .int .u8 (97 + (m.nn q x : Int))] :=
            blk_own (Nat.zero_le _) (Blk.new W #[.int .u8 (48 + (m.on q x : Int)), .int .u8 (97 + (m.nn q x : Int))] 5) 2 rfl (by omega)
          (refine AnyS.branch (rs := [12]) (by kernel_rfl) (List.cons_ne_nil _ _) ?_; refine AllS.cons rfl ?_ AllS.nil; intro K hK)
          go_simp
          refine hK.out _ _ (.inl (HCN.out _ _ _ hM2)) (fun hU => ?_)
          clear hK K hM hba
          (try simp only [Act.put, List.setIfInBounds_toArray, List.set_cons_zero, List.set_cons_succ])
          (refine AnyS.branch (rs := [13]) (by kernel_rfl) (List.cons_ne_nil _ _) ?_; refine AllS.cons rfl ?_ AllS.nil; intro K hK)
          refine Mm.stepRow rfl (.tmp 20) (.tmp 32) 63 rfl hM2 0 rfl Tryd.underlying63 hi0 hz0 hz1 hz2 rfl rfl rfl rfl hnew (by simp [Value.oneCell']) HRL.out (by simp) (by omega) ?_
          intro v9 w9 hM9
          (try simp only [List.set_cons_zero] at hM9)
          rw [← HRU.out] at hM9
          refine hK.out _ _ (.inl (HCN.out _ _ _ hM9)) (fun hU => ?_)
          clear hK K hM2 hnew
          (try simp only [Act.put, List.setIfInBounds_toArray, List.set_cons_zero, List.set_cons_succ])
          (refine AnyS.take (i := 14) rfl (by kernel_rfl) (by kernel_rfl) (by kernel_rfl) (by rfl) (fun _ _ _ h => h) (by rfl) (by intro w; go_simp; with_reducible rfl) hU (fun hU => ?_); (try simp only [Act.put, List.setIfInBounds_toArray, List.set_cons_zero, List.set_cons_succ]))
          refine AnyS.done (by kernel_rfl) ?_ _
          clear hU HCN HOE HNE HRU u2
          have HM9 := Lib.hid hM9
          clear hM9
          go_wp2_with fail
          go_roundw
          case rel => exact ⟨x + 1, by omega, by go_num, HM9.out⟩
          case measure => simp [intOf] <;> omega
        · obtain rfl : x = m.l := by omega
          have x3 : ¬ ((m.l : Int) < (m.l : Int)) := by omega
          have hrl := rowI_len m q
          have ho := (hM.own _ (List.mem_cons_self ..))
          have hcv0 := own_str (w := wr) (base := w.heap.size) (v := u5) (ns := rowI m q) (by simpa [rowI, u8s] using ho)
          have hM1 := hM.subG (G' := []) (List.nil_sublist _)
          have c1 := (hM1.at 0 rfl).cell' (rowsZ_get m (k := q) hlt)
          have f1 := (hM1.at 0 rfl).free q
          have hM2 := hM1.setCell 0 rfl q (.string (rowB m q))
          simp only [List.set_cons_zero] at hM2
          rw [rowsZ_set m hlt] at hM2
          have HM2 := Lib.hid hM2
          have HCV := Lib.hid hcv0
          have hcv : (convert 63 9 u5).run Tryd.prog wr = .ok (.string (rowB m q)) wr := HCV.out
          clear hM hM1 hM2 ho hrl HCV hcv0
          generalize rowB m q = r at *
          go_wp2_with fail
          go_roundw
          case rel => exact ⟨q + 1, by omega, by go_num, HM2.out⟩
          case measure => simp [intOf] <;> omega
    · obtain rfl : q = m.s := by omega
      have q3 : ¬ ((m.s : Int) < (m.s : Int)) := by omega
      rw [rowsZ_all] at hM
      have HRL : Hid ((rowsB m).length = m.s) := by show _ = _; simp [rowsB]
      have HJN : Hid (∀ W G, Mm w.heap.size w W [(w.heap.size + 1, stS (rowsB m), 9), (w.heap.size, m.cells, 25)] G → Calls Tryd.prog 40 #[.slice (some ⟨w.heap.size + 1, 0, none⟩) m.s m.s, .string ⟨#[44]⟩] W (Ret (.string (rsB m)) W)) := fun W G h => by
        have hb := h.at 0 rfl
        have hlt := hb.lt
        have hj := Any.strings_Join Tryd.lJoin builderX (w.heap.size + 1) 0 m.s (rowsB m) ⟨#[44]⟩ W (fun j x hx => by
          have := hb.cell' (i := j) (v := .string x) (by simp [stS, hx])
          rwa [Nat.zero_add]) hlt (by rw [HRL.out]; omega) (by rw [HRL.out]; exact Nat.le_refl _) (by
            have : (rsB m).size = (Lib.join ((rowsB m).map (·.data.toList)) [44]).length := by simp [rsB, ByteArray.size]
            show (Lib.join ((rowsB m).map (·.data.toList)) [44]).length ≤ _
            omega)
        rw [HRL.out] at hj
        exact hj
      have HSL : Hid (∀ W G, Mm w.heap.size w W [(w.heap.size + 1, stS (rowsB m), 9), (w.heap.size, m.cells, 25)] G → W.cell? ⟨w.heap.size, 0, none⟩ = some (.int .i64 (m.l : Int))) := fun W G h => by
        have := (h.mach 1 rfl).l
        rwa [HEQ.out] at this
      have HMd := Lib.hid hM.drew
      have HSZ := Lib.hid hsz
      clear hM hsz
      go_wp2_with fail
      refine region_A (fun W => W.cell? ⟨w.heap.size, 0, none⟩ = some (.int .i64 (m.l : Int))) [] 9 (fun W => Mm w.heap.size w W [(w.heap.size + 1, stS (rowsB m), 9), (w.heap.size, m.cells, 25)] []) rfl HMX.out HMd.out (fun W h => HSL.out W _ h) (fun W hM hU => ?_)
      clear HMd
      (refine AnyS.take (i := 0) rfl (by kernel_rfl) (by kernel_rfl) (by kernel_rfl) (by rfl) (fun _ _ _ h => h) (by rfl) (by intro w; go_simp; with_reducible rfl) hU (fun hU => ?_); (try simp only [Act.put, List.setIfInBounds_toArray, List.set_cons_zero, List.set_cons_succ]))
      (refine AnyS.takeS (i := 1) rfl (by kernel_rfl) (by kernel_rfl) (by kernel_rfl) (by rfl) (by kernel_rfl) (by kernel_rfl) (fun _ _ _ h => h) (by rfl) (by intro W hSw; have h1 := hSw; clear hSw; go_simp; with_reducible rfl) hU (fun hU => ?_); (try simp only [Act.put, List.setIfInBounds_toArray, List.set_cons_zero, List.set_cons_succ]))
      (refine AnyS.take (i := 5) rfl (by kernel_rfl) (by kernel_rfl) (by kernel_rfl) (by rfl) (fun _ _ _ h => h) (by rfl) (by intro w; go_simp; with_reducible rfl) hU (fun hU => ?_); (try simp only [Act.put, List.setIfInBounds_toArray, List.set_cons_zero, List.set_cons_succ]))
      (refine AnyS.branch (rs := [2]) (by kernel_rfl) (List.cons_ne_nil _ _) ?_; refine AllS.cons rfl ?_ AllS.nil; intro K hK)
      go_simp
      refine (letter_any _ (by omega) (by omega) _).mono ?_
      rintro e w' ⟨rfl, rfl⟩
      refine hK.out _ _ (.inl (HSL.out _ _ hM)) (fun hU => ?_)
      clear hK K
      (try simp only [Act.put, List.setIfInBounds_toArray, List.set_cons_zero, List.set_cons_succ])
      have HCV : Hid (∀ W W2, Below ((W : World).alloc (.cells #[.int .u8 (48 + (m.l : Int)), .int .u8 58] 5)).heap.size (W.alloc (.cells #[.int .u8 (48 + (m.l : Int)), .int .u8 58] 5)) W2 → (convert 63 9 (.slice (some ⟨W.heap.size, 0, none⟩) 2 2)).run Tryd.prog W2 = .ok (.string (strOfNums [48 + (m.l : Int), 58])) W2) := fun W W2 hb => by
        have hnew : (W.alloc (.cells #[.int .u8 (48 + (m.l : Int)), .int .u8 58] 5)).ownsRow 0 5 1 (.slice (some ⟨W.heap.size, 0, none⟩) 2 2) 2 [.int .u8 (48 + (m.l : Int)), .int .u8 58] :=
          blk_own (Nat.zero_le _) (Blk.new W #[.int .u8 (48 + (m.l : Int)), .int .u8 58] 5) 2 rfl (by omega)
        exact own_str (w := W2) (base := 0) (v := .slice (some ⟨W.heap.size, 0, none⟩) 2 2) (ns := [48 + (m.l : Int), 58]) (ownRow_keep hnew hb)
      have HEND : Hid (strOfNums [48 + (m.l : Int), 58] ++ rsB m = mtB m) := rfl
      have HBA : Hid (∀ W : World, Below W.heap.size W (W.alloc (.cells #[.int .u8 (48 + (m.l : Int)), .int .u8 58] 5))) := fun W => (Below.refl _ _).alloc (Nat.le_refl _) _
      have hov : ¬ 9223372036854775807 < (strOfNums [48 + (m.l : Int), 58]).size + (rsB m).size := by rw [strOfNums_size]; have := HSZ.out; simp; omega
      have HOV := Lib.hid hov
      clear hov
      refine AnyS.branch (rs := [3, 6]) (by kernel_rfl) (by simp) (AllS.cons rfl (fun K hK => ?_) (AllS.cons rfl (fun K hK => ?_) AllS.nil))
      · go_simp
        have hMa := hM.call (HBA.out W)
        refine hK.out _ _ (.inl (HSL.out _ _ hMa)) (fun hU => ?_)
        clear hK K
        (try simp only [Act.put, List.setIfInBounds_toArray, List.set_cons_zero, List.set_cons_succ])
        have hc1 := HCV.out W _ (Below.refl _ _)
        have HC2 : Hid (∀ W2, Below (W.alloc (.cells #[.int .u8 (48 + (m.l : Int)), .int .u8 58] 5)).heap.size (W.alloc (.cells #[.int .u8 (48 + (m.l : Int)), .int .u8 58] 5)) W2 → (convert 63 9 (.slice (some ⟨W.heap.size, 0, none⟩) 2 2)).run Tryd.prog W2 = .ok (.string (strOfNums [48 + (m.l : Int), 58])) W2) := fun W2 hb => HCV.out W W2 hb
        clear hM
        generalize hZ : strOfNums [48 + (m.l : Int), 58] = Z at *
        generalize W.heap.size = bz at *
        generalize W.alloc (.cells #[.int .u8 (48 + (m.l : Int)), .int .u8 58] 5) = Wa at *
        refine AnyS.branch (rs := [4, 6]) (by kernel_rfl) (by simp) (AllS.cons rfl (fun K hK => ?_) (AllS.cons rfl (fun K hK => ?_) AllS.nil))
        · go_simp
          refine hK.out _ _ (.inl (HSL.out _ _ hMa)) (fun hU => ?_)
          clear hK K hc1
          (try simp only [Act.put, List.setIfInBounds_toArray, List.set_cons_zero, List.set_cons_succ])
          (refine AnyS.branch (rs := [6]) (by kernel_rfl) (List.cons_ne_nil _ _) ?_; refine AllS.cons rfl ?_ AllS.nil; intro K hK)
          go_simp
          refine (HJN.out _ _ hMa).mono ?_
          rintro e w4 ⟨rfl, hb4⟩
          have hM4 := hMa.call hb4
          refine hK.out _ _ (.inl (HSL.out _ _ hM4)) (fun hU => ?_)
          clear hK K hMa hb4
          (try simp only [Act.put, List.setIfInBounds_toArray, List.set_cons_zero, List.set_cons_succ])
          have hov := HOV.out
          (refine AnyS.take (i := 7) rfl (by kernel_rfl) (by kernel_rfl) (by kernel_rfl) (by rfl) (fun _ _ _ h => h) (by rfl) (by intro w; go_simp; with_reducible rfl) hU (fun hU => ?_); (try simp only [Act.put, List.setIfInBounds_toArray, List.set_cons_zero, List.set_cons_succ]); refine AnyS.take (i := 8) rfl (by kernel_rfl) (by kernel_rfl) (by kernel_rfl) (by rfl) (fun _ _ _ h => h) (by rfl) (by intro w; go_simp; with_reducible rfl) hU (fun hU => ?_); (try simp only [Act.put, List.setIfInBounds_toArray, List.set_cons_zero, List.set_cons_succ]))
          refine AnyS.done (by kernel_rfl) ?_ _
          have hbl := hM4.below
          clear hU hov HCV HJN HSL HBA
          go_wp2_with fail
          go_ret
          exact ⟨by rw [HEND.out]; rfl, hbl⟩
        · go_simp
          refine (HJN.out _ _ hMa).mono ?_
          rintro e w4 ⟨rfl, hb4⟩
          have hM4 := hMa.call hb4
          have hc2 := HC2.out w4 hb4
          refine hK.out _ _ (.inl (HSL.out _ _ hM4)) (fun hU => ?_)
          clear hK K hMa hb4 hc1 HC2
          (try simp only [Act.put, List.setIfInBounds_toArray, List.set_cons_zero, List.set_cons_succ])
          (refine AnyS.branch (rs := [4]) (by kernel_rfl) (List.cons_ne_nil _ _) ?_; refine AllS.cons rfl ?_ AllS.nil; intro K hK)
          go_simp
          refine hK.out _ _ (.inl (HSL.out _ _ hM4)) (fun hU => ?_)
          clear hK K hc2
          (try simp only [Act.put, List.setIfInBounds_toArray, List.set_cons_zero, List.set_cons_succ])
          have hov := HOV.out
          (refine AnyS.take (i := 7) rfl (by kernel_rfl) (by kernel_rfl) (by kernel_rfl) (by rfl) (fun _ _ _ h => h) (by rfl) (by intro w; go_simp; with_reducible rfl) hU (fun hU => ?_); (try simp only [Act.put, List.setIfInBounds_toArray, List.set_cons_zero, List.set_cons_succ]); refine AnyS.take (i := 8) rfl (by kernel_rfl) (by kernel_rfl) (by kernel_rfl) (by rfl) (fun _ _ _ h => h) (by rfl) (by intro w; go_simp; with_reducible rfl) hU (fun hU => ?_); (try simp only [Act.put, List.setIfInBounds_toArray, List.set_cons_zero, List.set_cons_succ]))
          refine AnyS.done (by kernel_rfl) ?_ _
          have hbl := hM4.below
          clear hU hov HCV HJN HSL HBA
          go_wp2_with fail
          go_ret
          exact ⟨by rw [HEND.out]; rfl, hbl⟩
      · go_simp
        refine (HJN.out _ _ hM).mono ?_
        rintro e w4 ⟨rfl, hb4⟩
        have hM4 := hM.call hb4
        refine hK.out _ _ (.inl (HSL.out _ _ hM4)) (fun hU => ?_)
        clear hK K hM hb4
        (try simp only [Act.put, List.setIfInBounds_toArray, List.set_cons_zero, List.set_cons_succ])
        have hMa := hM4.call (HBA.out w4)
        (refine AnyS.branch (rs := [3]) (by kernel_rfl) (List.cons_ne_nil _ _) ?_; refine AllS.cons rfl ?_ AllS.nil; intro K hK)
        go_simp
        refine hK.out _ _ (.inl (HSL.out _ _ hMa)) (fun hU => ?_)
        clear hK K
        (try simp only [Act.put, List.setIfInBounds_toArray, List.set_cons_zero, List.set_cons_succ])
        have hc1 := HCV.out w4 _ (Below.refl _ _)
        clear hM4
        generalize hZ : strOfNums [48 + (m.l : Int), 58] = Z at *
        generalize w4.heap.size = bz at *
        generalize w4.alloc (.cells #[.int .u8 (48 + (m.l : Int)), .int .u8 58] 5) = Wa at *
        (refine AnyS.branch (rs := [4]) (by kernel_rfl) (List.cons_ne_nil _ _) ?_; refine AllS.cons rfl ?_ AllS.nil; intro K hK)
        go_simp
        refine hK.out _ _ (.inl (HSL.out _ _ hMa)) (fun hU => ?_)
        clear hK K hc1
        (try simp only [Act.put, List.setIfInBounds_toArray, List.set_cons_zero, List.set_cons_succ])
        have hov := HOV.out
        (refine AnyS.take (i := 7) rfl (by kernel_rfl) (by kernel_rfl) (by kernel_rfl) (by rfl) (fun _ _ _ h => h) (by rfl) (by intro w; go_simp; with_reducible rfl) hU (fun hU => ?_); (try simp only [Act.put, List.setIfInBounds_toArray, List.set_cons_zero, List.set_cons_succ]); refine AnyS.take (i := 8) rfl (by kernel_rfl) (by kernel_rfl) (by kernel_rfl) (by rfl) (fun _ _ _ h => h) (by rfl) (by intro w; go_simp; with_reducible rfl) hU (fun hU => ?_); (try simp only [Act.put, List.setIfInBounds_toArray, List.set_cons_zero, List.set_cons_succ]))
        refine AnyS.done (by kernel_rfl) ?_ _
        have hbl := hMa.below
        clear hU hov HCV HJN HSL HBA
        go_wp2_with fail
        go_ret
        exact ⟨by rw [HEND.out]; rfl, hbl⟩
end Go.Proofs.YthgkkaifdlkciaaDoor

/- strings.Cut, laid. -/
namespace Go.Proofs.YthgkkaifdlkciaaDoor
open Go.Shelf
def Tryd.lCut_ren : Go.Shelf.Ren := ⟨fun | 145 => 27 | 220 => 33 | 219 => 41 | 217 => 48 | 225 => 49 | 224 => 50 | 267 => 51 | 266 => 57 | 314 => 58 | n => n, fun | 9 => 9 | 4 => 4 | 59 => 54 | 3 => 3 | 5 => 5 | 46 => 81 | 146 => 87 | 51 => 86 | n => n, fun | 1 => 0 | n => n⟩
theorem Tryd.lCut : Go.Proofs.Lays.n145 Tryd.prog Tryd.lCut_ren := {
  mixed := by kernel_rfl,
  f145 := Tryd.func27.trans (congrArg some (by kernel_rfl)),
  f217 := Tryd.func48.trans (congrArg some (by kernel_rfl)),
  f219 := Tryd.func41.trans (congrArg some (by kernel_rfl)),
  f220 := Tryd.func33.trans (congrArg some (by kernel_rfl)),
  f224 := Tryd.func50.trans (congrArg some (by kernel_rfl)),
  f225 := Tryd.func49.trans (congrArg some (by kernel_rfl)),
  f266 := Tryd.func57.trans (congrArg some (by kernel_rfl)),
  f267 := Tryd.func51.trans (congrArg some (by kernel_rfl)),
  f314 := Tryd.func58.trans (congrArg some (by kernel_rfl)),
  t3 := Tryd.underlying3,
  a3 := Tryd.isAgg3,
  z3 := Tryd.sizeOf3,
  v3 := Tryd.zeroValue3,
  t4 := Tryd.underlying4,
  a4 := Tryd.isAgg4,
  z4 := Tryd.sizeOf4,
  v4 := Tryd.zeroValue4,
  t5 := Tryd.underlying5,
  a5 := Tryd.isAgg5,
  z5 := Tryd.sizeOf5,
  v5 := Tryd.zeroValue5,
  t9 := Tryd.underlying9,
  a9 := Tryd.isAgg9,
  z9 := Tryd.sizeOf9,
  v9 := Tryd.zeroValue9,
  t46 := Tryd.underlying81,
  a46 := Tryd.isAgg81,
  z46 := Tryd.sizeOf81,
  v46 := Tryd.zeroValue81,
  t51 := Tryd.underlying86,
  a51 := Tryd.isAgg86,
  z51 := Tryd.sizeOf86,
  v51 := Tryd.zeroValue86,
  t59 := Tryd.underlying54,
  a59 := Tryd.isAgg54,
  z59 := Tryd.sizeOf54,
  v59 := Tryd.zeroValue54,
  t146 := Tryd.underlying87,
  a146 := Tryd.isAgg87,
  z146 := Tryd.sizeOf87,
  v146 := Tryd.zeroValue87,
  g1 := by kernel_rfl }
end Go.Proofs.YthgkkaifdlkciaaDoor

/- strings.Split, laid. -/
namespace Go.Proofs.YthgkkaifdlkciaaDoor
open Go.Shelf
def Tryd.lSplit_ren : Go.Shelf.Ren := ⟨fun | 146 => 28 | 221 => 34 | 268 => 42 | 138 => 43 | 143 => 44 | 195 => 52 | 197 => 53 | 218 => 54 | 219 => 41 | 260 => 59 | 217 => 48 | 225 => 49 | 224 => 50 | 267 => 51 | 266 => 57 | 314 => 58 | n => n, fun | 9 => 9 | 31 => 40 | 3 => 3 | 4 => 4 | 0 => 0 | 105 => 83 | 21 => 21 | 5 => 5 | 46 => 81 | 119 => 92 | 139 => 95 | 138 => 94 | 146 => 87 | 51 => 86 | n => n, fun | 1 => 0 | 3 => 1 | 4 => 2 | n => n⟩
theorem Tryd.lSplit : Go.Proofs.Lays.n146 Tryd.prog Tryd.lSplit_ren := {
  mixed := by kernel_rfl,
  f138 := Tryd.func43.trans (congrArg some (by kernel_rfl)),
  f143 := Tryd.func44.trans (congrArg some (by kernel_rfl)),
  f146 := Tryd.func28.trans (congrArg some (by kernel_rfl)),
  f195 := Tryd.func52.trans (congrArg some (by kernel_rfl)),
  f197 := Tryd.func53.trans (congrArg some (by kernel_rfl)),
  f217 := Tryd.func48.trans (congrArg some (by kernel_rfl)),
  f218 := Tryd.func54.trans (congrArg some (by kernel_rfl)),
  f219 := Tryd.func41.trans (congrArg some (by kernel_rfl)),
  f221 := Tryd.func34.trans (congrArg some (by kernel_rfl)),
  f224 := Tryd.func50.trans (congrArg some (by kernel_rfl)),
  f225 := Tryd.func49.trans (congrArg some (by kernel_rfl)),
  f260 := Tryd.func59.trans (congrArg some (by kernel_rfl)),
  f266 := Tryd.func57.trans (congrArg some (by kernel_rfl)),
  f267 := Tryd.func51.trans (congrArg some (by kernel_rfl)),
  f268 := Tryd.func42.trans (congrArg some (by kernel_rfl)),
  f314 := Tryd.func58.trans (congrArg some (by kernel_rfl)),
  t0 := Tryd.underlying0,
  a0 := Tryd.isAgg0,
  z0 := Tryd.sizeOf0,
  v0 := Tryd.zeroValue0,
  t3 := Tryd.underlying3,
  a3 := Tryd.isAgg3,
  z3 := Tryd.sizeOf3,
  v3 := Tryd.zeroValue3,
  t4 := Tryd.underlying4,
  a4 := Tryd.isAgg4,
  z4 := Tryd.sizeOf4,
  v4 := Tryd.zeroValue4,
  t5 := Tryd.underlying5,
  a5 := Tryd.isAgg5,
  z5 := Tryd.sizeOf5,
  v5 := Tryd.zeroValue5,
  t9 := Tryd.underlying9,
  a9 := Tryd.isAgg9,
  z9 := Tryd.sizeOf9,
  v9 := Tryd.zeroValue9,
  t21 := Tryd.underlying21,
  a21 := Tryd.isAgg21,
  z21 := Tryd.sizeOf21,
  v21 := Tryd.zeroValue21,
  t31 := Tryd.underlying40,
  a31 := Tryd.isAgg40,
  z31 := Tryd.sizeOf40,
  v31 := Tryd.zeroValue40,
  t46 := Tryd.underlying81,
  a46 := Tryd.isAgg81,
  z46 := Tryd.sizeOf81,
  v46 := Tryd.zeroValue81,
  t51 := Tryd.underlying86,
  a51 := Tryd.isAgg86,
  z51 := Tryd.sizeOf86,
  v51 := Tryd.zeroValue86,
  t105 := Tryd.underlying83,
  a105 := Tryd.isAgg83,
  z105 := Tryd.sizeOf83,
  v105 := Tryd.zeroValue83,
  t119 := Tryd.underlying92,
  a119 := Tryd.isAgg92,
  z119 := Tryd.sizeOf92,
  t138 := Tryd.underlying94,
  a138 := Tryd.isAgg94,
  z138 := Tryd.sizeOf94,
  v138 := Tryd.zeroValue94,
  t139 := Tryd.underlying95,
  a139 := Tryd.isAgg95,
  z139 := Tryd.sizeOf95,
  v139 := Tryd.zeroValue95,
  t146 := Tryd.underlying87,
  a146 := Tryd.isAgg87,
  z146 := Tryd.sizeOf87,
  v146 := Tryd.zeroValue87,
  g1 := by kernel_rfl,
  g3 := by kernel_rfl,
  g4 := by kernel_rfl }
end Go.Proofs.YthgkkaifdlkciaaDoor
