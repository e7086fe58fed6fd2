import Derived.Test.YteagecoiijhflaaZLRelationsOf03
import Derived.Test.YteagecoiijhflaaZLOrderOf09
import Derived.Test.YteagecoiijhflaaZLOrderOf10
import Derived.Test.YteagecoiijhflaaZLRelationsOf02
/- (*table).gathered: the machine of some states of a table. -/
namespace Go.Proofs.Yteagecoiijhflaa
open Go.RowKit
set_option linter.unusedVariables false
set_option linter.unusedSimpArgs false

/-- the rows ahead of q and the first x numbers of row q are given -/
def gaP (d : Nat) (f : Nat → Nat → Nat) (q x : Nat) : List Int := (List.range 48).map fun j => if j % 3 < d ∧ (j / 3 < q ∨ j / 3 = q ∧ j % 3 < x) then (f (j / 3) (j % 3) : Int) else 0
theorem gaP_len (d : Nat) (f : Nat → Nat → Nat) (q x : Nat) : (gaP d f q x).length = 48 := by simp [gaP]
theorem gaP_set {d : Nat} {f : Nat → Nat → Nat} {q x : Nat} (hq : q < 16) (hx : x < d) (hd : d ≤ 3) : (gaP d f q x).set (q * 3 + x) (f q x : Int) = gaP d f q (x + 1) := by
  rw [gaP, map48_set _ (by omega), gaP]
  refine map48_congr fun i hi => ?_
  by_cases e : i = q * 3 + x
  · subst e
    rw [if_pos rfl, show (q * 3 + x) / 3 = q by omega, show (q * 3 + x) % 3 = x by omega, if_pos ⟨hx, .inr ⟨rfl, by omega⟩⟩]
  · rw [if_neg e]
    have h : (i % 3 < d ∧ (i / 3 < q ∨ i / 3 = q ∧ i % 3 < x)) ↔ (i % 3 < d ∧ (i / 3 < q ∨ i / 3 = q ∧ i % 3 < x + 1)) := by
      constructor
      · rintro ⟨a, b⟩; exact ⟨a, b.imp id fun ⟨c, d⟩ => ⟨c, by omega⟩⟩
      · rintro ⟨a, b⟩
        refine ⟨a, b.imp id fun ⟨c, d⟩ => ⟨c, ?_⟩⟩
        omega
    by_cases c : i % 3 < d ∧ (i / 3 < q ∨ i / 3 = q ∧ i % 3 < x)
    · rw [if_pos c, if_pos (h.1 c)]
    · rw [if_neg c, if_neg fun k => c (h.2 k)]
theorem gaP_row (d : Nat) (f : Nat → Nat → Nat) (q : Nat) : gaP d f q d = gaP d f (q + 1) 0 := by
  rw [gaP, gaP]
  refine map48_congr fun i hi => ?_
  have h : (i % 3 < d ∧ (i / 3 < q ∨ i / 3 = q ∧ i % 3 < d)) ↔ (i % 3 < d ∧ (i / 3 < q + 1 ∨ i / 3 = q + 1 ∧ i % 3 < 0)) := by
    constructor
    · rintro ⟨a, b | b⟩
      · exact ⟨a, .inl (by omega)⟩
      · exact ⟨a, .inl (by omega)⟩
    · rintro ⟨a, b | b⟩
      · refine ⟨a, ?_⟩
        by_cases e : i / 3 = q
        · exact .inr ⟨e, a⟩
        · exact .inl (by omega)
      · omega
  by_cases c : i % 3 < d ∧ (i / 3 < q ∨ i / 3 = q ∧ i % 3 < d)
  · rw [if_pos c, if_pos (h.1 c)]
  · rw [if_neg c, if_neg fun k => c (h.2 k)]
theorem gaP_all (n d : Nat) (f : Nat → Nat → Nat) : gaP d f n 0 = grid n d f := by
  rw [gaP, grid]
  refine map48_congr fun i hi => ?_
  by_cases c : i / 3 < n ∧ i % 3 < d
  · rw [if_pos c, if_pos ⟨c.2, .inl c.1⟩]
  · rw [if_neg c, if_neg]
    rintro ⟨a, b | b⟩
    · exact c ⟨b, a⟩
    · omega
theorem gaP_zero (d : Nat) (f : Nat → Nat → Nat) : gaP d f 0 0 = List.replicate 48 0 := by
  have h : gaP d f 0 0 = (List.range 48).map fun _ => (0 : Int) := map48_congr fun i hi => if_neg (by omega)
  rw [h]; rfl
theorem gaP_bound {d : Nat} {f : Nat → Nat → Nat} {q x : Nat} (hf : ∀ i y, (i < q ∨ i = q ∧ y < x) → y < d → f i y ≤ 255) (i : Nat) : 0 ≤ (gaP d f q x)[i]?.getD 0 ∧ (gaP d f q x)[i]?.getD 0 ≤ 255 := by
  by_cases h : i < 48
  · simp only [gaP, List.getElem?_map, List.getElem?_range h, Option.map_some, Option.getD_some]
    split
    · rename_i hc
      have := hf _ _ hc.2 hc.1
      omega
    · omega
  · rw [List.getElem?_eq_none (by rw [gaP_len]; omega)]
    simp only [Option.getD_none]; omega
/-- a machine while it is filled -/
def paM (L S : Int) (d : Nat) (f g : Nat → Nat → Nat) (q x y : Nat) : Mch := ⟨L, S, gaP d f q x, gaP d g q y⟩
theorem paM_wf {L S : Int} {d : Nat} {f g : Nat → Nat → Nat} {q x y : Nat} (hL : -9223372036854775808 ≤ L ∧ L ≤ 9223372036854775807) (hS : -9223372036854775808 ≤ S ∧ S ≤ 9223372036854775807)
    (hf : ∀ i z, (i < q ∨ i = q ∧ z < x) → z < d → f i z ≤ 255) (hg : ∀ i z, (i < q ∨ i = q ∧ z < y) → z < d → g i z ≤ 255) : (paM L S d f g q x y).Wf :=
  ⟨gaP_len _ _ _ _, gaP_len _ _ _ _, gaP_bound hf, gaP_bound hg, hL, hS⟩
theorem paM_setN {L S : Int} {d : Nat} {f g : Nat → Nat → Nat} {q x y : Nat} (hq : q < 16) (hx : x < d) (hd : d ≤ 3) : (paM L S d f g q x y).cells.set (2 + q * 3 + x) (.int .u8 (f q x : Int)) = (paM L S d f g q (x + 1) y).cells := by
  rw [Nat.add_assoc, paM, cells_setN _ _ _ _ _ (by rw [gaP_len]; omega), gaP_set hq hx hd]; rfl
theorem paM_setO {L S : Int} {d : Nat} {f g : Nat → Nat → Nat} {q x y : Nat} (hq : q < 16) (hx : y < d) (hd : d ≤ 3) : (paM L S d f g q x y).cells.set (50 + q * 3 + y) (.int .u8 (g q y : Int)) = (paM L S d f g q x (y + 1)).cells := by
  rw [Nat.add_assoc, paM, cells_setO _ _ _ _ _ (gaP_len _ _ _ _), gaP_set hq hx hd]; rfl
theorem paM_row (L S : Int) (d : Nat) (f g : Nat → Nat → Nat) (q : Nat) : paM L S d f g q d d = paM L S d f g (q + 1) 0 0 := by rw [paM, gaP_row, gaP_row]; rfl
theorem paM_all (L S : Int) (n d : Nat) (f g : Nat → Nat → Nat) : paM L S d f g n 0 0 = ⟨L, S, grid n d f, grid n d g⟩ := by rw [paM, gaP_all, gaP_all]
theorem paM_start (L S : Int) (d : Nat) (f g : Nat → Nat → Nat) : ((Try.zeroCells29.setIfInBounds 0 (.int .i64 L)).setIfInBounds 1 (.int .i64 S)) = (paM L S d f g 0 0 0).cells.toArray := by
  apply Array.toList_inj.1
  rw [zero98, paM, gaP_zero, gaP_zero]; rfl
theorem gathM_get {L : Int} {t : Tbl} {S : List Nat} {num : Nat → Nat} : gathM L t S num = paM L (S.length : Int) t.d (fun i x => num (t.nx (S[i]?.getD 0) x)) (fun i x => t.ot (S[i]?.getD 0) x) S.length 0 0 := by
  rw [paM_all]; rfl
theorem zero98n : Try.zeroCells29.toList.length = 98 := zero_len

set_option maxRecDepth 100000 in
set_option maxHeartbeats 4000000 in
theorem gathered_any (t : Tbl) (hw : t.Wf) (hn : t.n ≤ 1000) (hd : t.d ≤ 3) (T : Nat) (L : Int) (hL : -9223372036854775808 ≤ L ∧ L ≤ 9223372036854775807) (S : List Nat) (h16 : S.length ≤ 16) (hS : ∀ i, i < S.length → S[i]?.getD 0 < t.n) (num : Nat → Nat)
    (hnum : ∀ i x, i < S.length → x < t.d → num (t.nx (S[i]?.getD 0) x) ≤ 255) (hot : ∀ i x, i < S.length → x < t.d → t.ot (S[i]?.getD 0) x ≤ 255)
    (k : Nat) (hent : Enters k) (cap : Array Value) (a : Option Addr) (c : Nat) (w : World) (hT : TabG w T t) (hI : IntsAt w a (natsI S))
    (hf : ∀ W, Below w.heap.size w W → ∀ i x, i < S.length → x < t.d → Calls Try.prog k (#[.int .i64 (t.nx (S[i]?.getD 0) x : Int)] ++ cap) W (RetQ (.int .i64 (num (t.nx (S[i]?.getD 0) x) : Int)) W)) :
    Calls Try.prog 159 #[.pointer (some ⟨T, 0, none⟩), .int .i64 L, .slice a S.length c, .func (.func k) #[] cap] w (Ret (.agg (gathM L t S num).cells.toArray) w) := by
  have hent' : ∀ args w, Sem.run Try.prog (callFunc k args) w = .ok (.enter k args) w := hent
  obtain ⟨gN, cN, gO, cO, t1, t2, t3, t4⟩ := id hT
  have HT1 := Lib.hid t1
  have HT2 := Lib.hid t2
  have HT3 := Lib.hid t3
  have HT4 := Lib.hid t4
  have HF := Lib.hid hf
  have HI := Lib.hid hI
  have HNUM := Lib.hid hnum
  have HOT := Lib.hid hot
  have HSL := Lib.hid hS
  have HGM : Hid (gathM L t S num = paM L (S.length : Int) t.d (fun (i x : Nat) => num (t.nx (S[i]?.getD 0) x)) (fun (i x : Nat) => t.ot (S[i]?.getD 0) x) S.length 0 0) := gathM_get
  generalize hfN : (fun (i x : Nat) => num (t.nx (S[i]?.getD 0) x)) = fN at *
  generalize hfO : (fun (i x : Nat) => t.ot (S[i]?.getD 0) x) = fO at *
  have HFN : Hid (∀ i x, num (t.nx (S[i]?.getD 0) x) = fN i x) := fun i x => by rw [← hfN]
  have HFO : Hid (∀ i x, t.ot (S[i]?.getD 0) x = fO i x) := fun i x => by rw [← hfO]
  have hpw : ∀ q x y, (∀ i z, (i < q ∨ i = q ∧ z < x) → i < S.length) → (∀ i z, (i < q ∨ i = q ∧ z < y) → i < S.length) → (paM L (S.length : Int) t.d fN fO q x y).Wf := fun q x y h1 h2 =>
    paM_wf hL (by omega) (fun i z hc hz => by rw [← HFN.out]; exact HNUM.out i z (h1 i z hc) hz) (fun i z hc hz => by rw [← HFO.out]; exact HOT.out i z (h2 i z hc) hz)
  have HPW := Lib.hid hpw
  have hw0 := hpw 0 0 0 (fun i z h => by omega) (fun i z h => by omega)
  have HIF := Lib.hid (mach_infoT hw0)
  have H1 := Lib.hid (mach_ones (paM L (S.length : Int) t.d fN fO 0 0 0))
  have HST := Lib.hid (paM_start L (S.length : Int) t.d fN fO)
  have HMX := Lib.hid (show Try.prog.follows .mixedOrders = true by kernel_rfl)
  have hlen := Mch.cells_length hw0
  have hM0 := ((Mm.start w).alloc Try.zeroCells29 29).alloc Try.zeroCells29 29
  rw [World.size_alloc] at hM0
  have ht := (hM0.at 0 rfl).there 0 (paM L (S.length : Int) t.d fN fO 0 0 0).cells.length (by simp only; rw [zero_len, hlen]; omega)
  have hM1 := hM0.setAll 0 rfl (vs := (paM L (S.length : Int) t.d fN fO 0 0 0).cells) (by rw [zero_len, hlen])
  simp only [List.set_cons_zero] at hM1
  have HM1 := Lib.hid hM1
  clear hent hT hI hf hnum hot hS t1 t2 t3 t4 hfN hfO hpw hw0 hM0 hM1 hlen
  go_enter Try.func159, Try.ntmps159
  go_wp2_with ((with_reducible refine st_row ?_ 29 (.tmp 9) (.tmp 17) ?_ (w.heap.size + 1) 0 (paM L (S.length : Int) t.d fN fO 0 0 0).cells ?_ ?_ ht HIF.out H1.out ?_); exact rfl; exact rfl; exact rfl; (rw [← HST.out]; exact rfl))
  clear ht
  go_loopw [20] (fun i wr => ∃ q : Nat, q ≤ S.length ∧ i = .int .i64 q ∧ Mm w.heap.size w wr [(w.heap.size + 1, (paM L (S.length : Int) t.d fN fO q 0 0).cells, 29), (w.heap.size, Try.zeroCells29.toList, 29)] []) (fun i _ => S.length - (intOf i).toNat)
  case atStart => exact ⟨0, Nat.zero_le _, rfl, HM1.out⟩
  case round =>
    clear HM1 HIF H1 HST
    obtain ⟨q, hq, rfl, hM⟩ := hrel
    by_cases hlt : q < S.length
    · have i1 : (0 : Int) ≤ (q : Int) := by omega
      have i2 : (q : Int) < 16 := by omega
      have i3 : (q : Int) < (S.length : Int) := by omega
      have hsl := HSL.out q hlt
      obtain ⟨bs, os, rfl, cs⟩ := HI.out q (by simpa [natsI] using hlt)
      have cs := (hM.below.cell (World.block_lt_of_cell? _ _ cs)).trans cs
      have e1 : (natsI S)[q]?.getD 0 = ((S[q]?.getD 0 : Nat) : Int) := by simp [natsI, List.getElem?_map, List.getElem?_eq_getElem hlt]
      rw [e1] at cs
      have HFC : Hid (∀ W, Below w.heap.size w W → ∀ x, x < t.d → Calls Try.prog k (#[.int .i64 (t.nx (S[q]?.getD 0) x : Int)] ++ cap) W (RetQ (.int .i64 (fN q x : Int)) W)) := fun W hW x hx => by
        have := HF.out W hW q x hlt hx
        rwa [HFN.out] at this
      have HOE : Hid (∀ x, t.ot (S[q]?.getD 0) x = fO q x) := fun x => HFO.out q x
      have HNB : Hid (∀ x, x < t.d → fN q x ≤ 255) := fun x hx => by rw [← HFN.out]; exact HNUM.out q x hlt hx
      have HOB : Hid (∀ x, x < t.d → fO q x ≤ 255) := fun x hx => by rw [← HFO.out]; exact HOT.out q x hlt hx
      generalize S[q]?.getD 0 = r at *
      obtain ⟨g1, c1, d1, d2⟩ := HT3.out r hsl
      obtain ⟨g2, c2, d3, d4⟩ := HT4.out r hsl
      have ct := (hM.below.cell (World.block_lt_of_cell? _ _ HT1.out)).trans HT1.out
      have cn := (hM.below.cell (World.block_lt_of_cell? _ _ d1)).trans d1
      have HD2 := Lib.hid d2
      have HSM : Hid (∀ W, Below w.heap.size w W → W.cell? ⟨T, 1, none⟩ = some (.slice (some ⟨gO, 0, none⟩) t.n cO) ∧ W.cell? ⟨gO, r, none⟩ = some (.slice (some ⟨g2, 0, none⟩) t.d c2)) := fun W hW =>
        ⟨(hW.cell (World.block_lt_of_cell? _ _ HT2.out)).trans HT2.out, (hW.cell (World.block_lt_of_cell? _ _ d3)).trans d3⟩
      have HSO : Hid (∀ W, Below w.heap.size w W → ∀ x, x < t.d → W.cell? ⟨g2, x, none⟩ = some (.int .i64 (fO q x : Int))) := fun W hW x hx => by
        have := d4 x hx
        rw [HOE.out] at this
        exact (hW.cell (World.block_lt_of_cell? _ _ this)).trans this
      have r1 : (0 : Int) ≤ (r : Int) := by omega
      have r2 : (r : Int) < (t.n : Int) := by omega
      clear d1 d2 d3 d4 e1
      go_wp2_with fail
      clear cs ct cn
      obtain ⟨wo, rfl⟩ : ∃ wo : World, wo = wr := ⟨_, rfl⟩
      go_loopw [33] (fun i wr => ∃ x : Nat, x ≤ t.d ∧ i = .int .i64 x ∧ Mm w.heap.size w wr [(w.heap.size + 1, (paM L (S.length : Int) t.d fN fO q x x).cells, 29), (w.heap.size, Try.zeroCells29.toList, 29)] []) (fun i _ => t.d - (intOf i).toNat)
      case atStart => exact ⟨0, Nat.zero_le _, rfl, hM⟩
      case round =>
        clear hM
        obtain ⟨x, hx, rfl, hM⟩ := hrel
        by_cases hxl : x < t.d
        · have j1 : (0 : Int) ≤ (x : Int) := by omega
          have j2 : (x : Int) < 3 := by omega
          have j7 : (x : Int) < (t.d : Int) := by omega
          have cx := (hM.below.cell (World.block_lt_of_cell? _ _ (HD2.out x hxl))).trans (HD2.out x hxl)
          have hw1 := HPW.out q x x (fun i z h => by omega) (fun i z h => by omega)
          have hw2 := HPW.out q (x + 1) x (fun i z h => by omega) (fun i z h => by omega)
          have HM := Lib.hid hM
          have HCL := Lib.hid (HFC.out (wr.drew) hM.below.drew x hxl)
          have HNX := Lib.hid (HNB.out x hxl)
          have HOX := Lib.hid (HOB.out x hxl)
          have HSX : Hid (∀ W, Below w.heap.size w W → W.cell? ⟨g2, x, none⟩ = some (.int .i64 (fO q x : Int))) := fun W hW => HSO.out W hW x hxl
          have HN2 : Hid (∀ W, Mm w.heap.size w W [(w.heap.size + 1, (paM L (S.length : Int) t.d fN fO q x x).cells, 29), (w.heap.size, Try.zeroCells29.toList, 29)] [] →
              W.cell? ⟨w.heap.size + 1, 2 + q * 3 + x, none⟩ = some (.int .u8 ((paM L (S.length : Int) t.d fN fO q x x).n q x)) ∧ W.frozen? ⟨w.heap.size + 1, 2 + q * 3 + x, none⟩ = false ∧
              Mm w.heap.size w (W.setCell ⟨w.heap.size + 1, 2 + q * 3 + x, none⟩ (.int .u8 (fN q x : Int))) [(w.heap.size + 1, (paM L (S.length : Int) t.d fN fO q (x + 1) x).cells, 29), (w.heap.size, Try.zeroCells29.toList, 29)] []) := fun W h => by
            have d1 := (h.mach 0 rfl).nn hw1 (q := q) (x := x) (by omega) (by omega)
            have f1 := (h.at 0 rfl).free (2 + q * 3 + x)
            have h2 := h.setCell 0 rfl (2 + q * 3 + x) (.int .u8 (fN q x : Int))
            rw [paM_setN (by omega) hxl hd] at h2
            simp only [List.set_cons_zero] at h2
            exact ⟨by simpa using d1, f1, h2⟩
          have HO2 : Hid (∀ W, Mm w.heap.size w W [(w.heap.size + 1, (paM L (S.length : Int) t.d fN fO q (x + 1) x).cells, 29), (w.heap.size, Try.zeroCells29.toList, 29)] [] →
              W.cell? ⟨w.heap.size + 1, 50 + q * 3 + x, none⟩ = some (.int .u8 ((paM L (S.length : Int) t.d fN fO q (x + 1) x).o q x)) ∧ W.frozen? ⟨w.heap.size + 1, 50 + q * 3 + x, none⟩ = false ∧
              Mm w.heap.size w (W.setCell ⟨w.heap.size + 1, 50 + q * 3 + x, none⟩ (.int .u8 (fO q x : Int))) [(w.heap.size + 1, (paM L (S.length : Int) t.d fN fO q (x + 1) (x + 1)).cells, 29), (w.heap.size, Try.zeroCells29.toList, 29)] []) := fun W h => by
            have d1 := (h.mach 0 rfl).oo hw2 (q := q) (x := x) (by omega) (by omega)
            have f1 := (h.at 0 rfl).free (50 + q * 3 + x)
            have h2 := h.setCell 0 rfl (50 + q * 3 + x) (.int .u8 (fO q x : Int))
            rw [paM_setO (by omega) hxl hd] at h2
            simp only [List.set_cons_zero] at h2
            exact ⟨by simpa using d1, f1, h2⟩
          clear hM hw1 hw2
          go_wp2_with fail
          clear cx
          have hMd := HM.out.drew
          obtain ⟨Wd, hWd⟩ : ∃ W, W = wr.drew := ⟨_, rfl⟩
          refine region_S (fun W => (W.cell? ⟨T, 1, none⟩ = some (.slice (some ⟨gO, 0, none⟩) t.n cO) ∧ W.cell? ⟨gO, r, none⟩ = some (.slice (some ⟨g2, 0, none⟩) t.d c2)) ∧ W.cell? ⟨g2, x, none⟩ = some (.int .i64 (fO q x : Int))) [] 27 rfl HMX.out ⟨HSM.out _ hMd.below, HSX.out _ hMd.below⟩ (fun hU => ?_)
          rw [← hWd] at hU hMd HCL ⊢
          clear hWd
          generalize t.nx r x = nr at *
          have u1 : IntKind.u8.wrap (fN q x : Int) = (fN q x : Int) := IntWalk.u8_in _ ⟨by omega, by have := HNX.out; omega⟩
          have u2 : IntKind.u8.wrap (fO q x : Int) = (fO q x : Int) := IntWalk.u8_in _ ⟨by omega, by have := HOX.out; omega⟩
          generalize fN q x = nv at *
          generalize fO q x = ov at *
          (refine AnyS.take (i := 0) rfl (by kernel_rfl) (by kernel_rfl) (by kernel_rfl) (by rfl) (fun _ _ _ h => h) (by rfl) (by intro w; go_simp; with_reducible rfl) hU (fun hU => ?_); (try simp only [Act.put, List.setIfInBounds_toArray, List.set_cons_zero, List.set_cons_succ]); refine AnyS.take (i := 1) rfl (by kernel_rfl) (by kernel_rfl) (by kernel_rfl) (by rfl) (fun _ _ _ h => h) (by rfl) (by intro w; go_simp; with_reducible rfl) hU (fun hU => ?_); (try simp only [Act.put, List.setIfInBounds_toArray, List.set_cons_zero, List.set_cons_succ]); refine AnyS.take (i := 2) rfl (by kernel_rfl) (by kernel_rfl) (by kernel_rfl) (by rfl) (fun _ _ _ h => h) (by rfl) (by intro w; go_simp; with_reducible rfl) hU (fun hU => ?_); (try simp only [Act.put, List.setIfInBounds_toArray, List.set_cons_zero, List.set_cons_succ]); refine AnyS.take (i := 3) rfl (by kernel_rfl) (by kernel_rfl) (by kernel_rfl) (by rfl) (fun _ _ _ h => h) (by rfl) (by intro w; go_simp; with_reducible rfl) hU (fun hU => ?_); (try simp only [Act.put, List.setIfInBounds_toArray, List.set_cons_zero, List.set_cons_succ]); refine AnyS.take (i := 4) rfl (by kernel_rfl) (by kernel_rfl) (by kernel_rfl) (by rfl) (fun _ _ _ h => h) (by rfl) (by intro w; go_simp; with_reducible rfl) hU (fun hU => ?_); (try simp only [Act.put, List.setIfInBounds_toArray, List.set_cons_zero, List.set_cons_succ]); refine AnyS.take (i := 5) rfl (by kernel_rfl) (by kernel_rfl) (by kernel_rfl) (by rfl) (fun _ _ _ h => h) (by rfl) (by intro w; go_simp; with_reducible rfl) hU (fun hU => ?_); (try simp only [Act.put, List.setIfInBounds_toArray, List.set_cons_zero, List.set_cons_succ]); refine AnyS.take (i := 8) rfl (by kernel_rfl) (by kernel_rfl) (by kernel_rfl) (by rfl) (fun _ _ _ h => h) (by rfl) (by intro w; go_simp; with_reducible rfl) hU (fun hU => ?_); (try simp only [Act.put, List.setIfInBounds_toArray, List.set_cons_zero, List.set_cons_succ]); refine AnyS.take (i := 9) rfl (by kernel_rfl) (by kernel_rfl) (by kernel_rfl) (by rfl) (fun _ _ _ h => h) (by rfl) (by intro w; go_simp; with_reducible rfl) hU (fun hU => ?_); (try simp only [Act.put, List.setIfInBounds_toArray, List.set_cons_zero, List.set_cons_succ]); refine AnyS.take (i := 10) rfl (by kernel_rfl) (by kernel_rfl) (by kernel_rfl) (by rfl) (fun _ _ _ h => h) (by rfl) (by intro w; go_simp; with_reducible rfl) hU (fun hU => ?_); (try simp only [Act.put, List.setIfInBounds_toArray, List.set_cons_zero, List.set_cons_succ]))
          (refine AnyS.takeS (i := 11) rfl (by kernel_rfl) (by kernel_rfl) (by kernel_rfl) (by rfl) (by kernel_rfl) (by kernel_rfl) (fun _ _ _ h => h) (by rfl) (by intro W hSw; have h1 := hSw.1.1; clear hSw; go_simp; with_reducible rfl) hU (fun hU => ?_); (try simp only [Act.put, List.setIfInBounds_toArray, List.set_cons_zero, List.set_cons_succ]))
          (refine AnyS.take (i := 12) rfl (by kernel_rfl) (by kernel_rfl) (by kernel_rfl) (by rfl) (fun _ _ _ h => h) (by rfl) (by intro w; go_simp; with_reducible rfl) hU (fun hU => ?_); (try simp only [Act.put, List.setIfInBounds_toArray, List.set_cons_zero, List.set_cons_succ]); refine AnyS.take (i := 13) rfl (by kernel_rfl) (by kernel_rfl) (by kernel_rfl) (by rfl) (fun _ _ _ h => h) (by rfl) (by intro w; go_simp; with_reducible rfl) hU (fun hU => ?_); (try simp only [Act.put, List.setIfInBounds_toArray, List.set_cons_zero, List.set_cons_succ]))
          (refine AnyS.takeS (i := 14) rfl (by kernel_rfl) (by kernel_rfl) (by kernel_rfl) (by rfl) (by kernel_rfl) (by kernel_rfl) (fun _ _ _ h => h) (by rfl) (by intro W hSw; have h1 := hSw.1.2; clear hSw; go_simp; with_reducible rfl) hU (fun hU => ?_); (try simp only [Act.put, List.setIfInBounds_toArray, List.set_cons_zero, List.set_cons_succ]))
          (refine AnyS.take (i := 15) rfl (by kernel_rfl) (by kernel_rfl) (by kernel_rfl) (by rfl) (fun _ _ _ h => h) (by rfl) (by intro w; go_simp; with_reducible rfl) hU (fun hU => ?_); (try simp only [Act.put, List.setIfInBounds_toArray, List.set_cons_zero, List.set_cons_succ]); refine AnyS.take (i := 16) rfl (by kernel_rfl) (by kernel_rfl) (by kernel_rfl) (by rfl) (fun _ _ _ h => h) (by rfl) (by intro w; go_simp; with_reducible rfl) hU (fun hU => ?_); (try simp only [Act.put, List.setIfInBounds_toArray, List.set_cons_zero, List.set_cons_succ]))
          (refine AnyS.takeS (i := 17) rfl (by kernel_rfl) (by kernel_rfl) (by kernel_rfl) (by rfl) (by kernel_rfl) (by kernel_rfl) (fun _ _ _ h => h) (by rfl) (by intro W hSw; have h1 := hSw.2; clear hSw; go_simp; with_reducible rfl) hU (fun hU => ?_); (try simp only [Act.put, List.setIfInBounds_toArray, List.set_cons_zero, List.set_cons_succ]))
          (refine AnyS.take (i := 18) rfl (by kernel_rfl) (by kernel_rfl) (by kernel_rfl) (by rfl) (fun _ _ _ h => h) (by rfl) (by intro w; go_simp; with_reducible rfl) hU (fun hU => ?_); (try simp only [Act.put, List.setIfInBounds_toArray, List.set_cons_zero, List.set_cons_succ]); refine AnyS.take (i := 19) rfl (by kernel_rfl) (by kernel_rfl) (by kernel_rfl) (by rfl) (fun _ _ _ h => h) (by rfl) (by intro w; go_simp; with_reducible rfl) hU (fun hU => ?_); (try simp only [Act.put, List.setIfInBounds_toArray, List.set_cons_zero, List.set_cons_succ]); refine AnyS.take (i := 20) rfl (by kernel_rfl) (by kernel_rfl) (by kernel_rfl) (by rfl) (fun _ _ _ h => h) (by rfl) (by intro w; go_simp; with_reducible rfl) hU (fun hU => ?_); (try simp only [Act.put, List.setIfInBounds_toArray, List.set_cons_zero, List.set_cons_succ]); refine AnyS.take (i := 23) rfl (by kernel_rfl) (by kernel_rfl) (by kernel_rfl) (by rfl) (fun _ _ _ h => h) (by rfl) (by intro w; go_simp; with_reducible rfl) hU (fun hU => ?_); (try simp only [Act.put, List.setIfInBounds_toArray, List.set_cons_zero, List.set_cons_succ]); refine AnyS.take (i := 24) rfl (by kernel_rfl) (by kernel_rfl) (by kernel_rfl) (by rfl) (fun _ _ _ h => h) (by rfl) (by intro w; go_simp; with_reducible rfl) hU (fun hU => ?_); (try simp only [Act.put, List.setIfInBounds_toArray, List.set_cons_zero, List.set_cons_succ]))
          (refine AnyS.branch (rs := [6]) (by kernel_rfl) (List.cons_ne_nil _ _) ?_; refine AllS.cons rfl ?_ AllS.nil; intro K hK)
          go_simp
          refine HCL.out.mono ?_
          rintro e w4 ⟨rfl, a4, rfl⟩
          have hM4 := hMd.drewN a4
          refine hK.out _ _ (.inl ⟨HSM.out _ hM4.below, HSX.out _ hM4.below⟩) (fun hU => ?_)
          clear hK K hMd HCL
          (try simp only [Act.put, List.setIfInBounds_toArray, List.set_cons_zero, List.set_cons_succ])
          (refine AnyS.take (i := 7) rfl (by kernel_rfl) (by kernel_rfl) (by kernel_rfl) (by rfl) (fun _ _ _ h => h) (by rfl) (by intro w; go_simp; with_reducible rfl) hU (fun hU => ?_); (try simp only [Act.put, List.setIfInBounds_toArray, List.set_cons_zero, List.set_cons_succ]); refine AnyS.take (i := 21) rfl (by kernel_rfl) (by kernel_rfl) (by kernel_rfl) (by rfl) (fun _ _ _ h => h) (by rfl) (by intro w; go_simp; with_reducible rfl) hU (fun hU => ?_); (try simp only [Act.put, List.setIfInBounds_toArray, List.set_cons_zero, List.set_cons_succ]))
          obtain ⟨d1, f1, hM5⟩ := HN2.out _ hM4
          (refine AnyS.branch (rs := [22]) (by kernel_rfl) (List.cons_ne_nil _ _) ?_; refine AllS.cons rfl ?_ AllS.nil; intro K hK)
          go_simp
          refine hK.out _ _ (.inl ⟨HSM.out _ hM5.below, HSX.out _ hM5.below⟩) (fun hU => ?_)
          clear hK K d1 f1 hM4
          (try simp only [Act.put, List.setIfInBounds_toArray, List.set_cons_zero, List.set_cons_succ])
          (refine AnyS.take (i := 25) rfl (by kernel_rfl) (by kernel_rfl) (by kernel_rfl) (by rfl) (fun _ _ _ h => h) (by rfl) (by intro w; go_simp; with_reducible rfl) hU (fun hU => ?_); (try simp only [Act.put, List.setIfInBounds_toArray, List.set_cons_zero, List.set_cons_succ]))
          obtain ⟨d2, f2, hM6⟩ := HO2.out _ hM5
          (refine AnyS.branch (rs := [26]) (by kernel_rfl) (List.cons_ne_nil _ _) ?_; refine AllS.cons rfl ?_ AllS.nil; intro K hK)
          go_simp
          refine hK.out _ _ (.inl ⟨HSM.out _ hM6.below, HSX.out _ hM6.below⟩) (fun hU => ?_)
          clear hK K d2 f2 hM5
          (try simp only [Act.put, List.setIfInBounds_toArray, List.set_cons_zero, List.set_cons_succ])
          refine AnyS.done (by kernel_rfl) ?_ _
          clear hU
          have HM6 := Lib.hid hM6
          clear hM6
          go_wp2_with fail
          go_roundw
          case rel => exact ⟨x + 1, by omega, by go_num, HM6.out⟩
          case measure => simp [intOf] <;> omega
        · have hx' : x = t.d := by omega
          subst hx'
          rw [paM_row] at hM
          go_wp2_with fail
          go_roundw
          case rel => exact ⟨q + 1, by omega, by go_num, hM⟩
          case measure => simp [intOf] <;> omega
    · have hq' : q = S.length := by omega
      subst hq'
      rw [← HGM.out] at hM
      have hw1 : (gathM L t S num).Wf := by rw [HGM.out]; exact HPW.out _ _ _ (fun i z h => by omega) (fun i z h => by omega)
      have hm1 := hM.mach 0 rfl
      have ht := (hM.at 1 rfl).there 0 (gathM L t S num).cells.length (by simp only; rw [zero_len, Mch.cells_length hw1]; omega)
      have HI2 := Lib.hid (mach_infoT hw1)
      have H2 := Lib.hid (mach_ones (gathM L t S num))
      have hM2 := hM.setAll 1 rfl (vs := (gathM L t S num).cells) (by rw [zero_len, Mch.cells_length hw1])
      have HB := Lib.hid (hM2.at 1 rfl)
      have HM2 := Lib.hid hM2
      have HI5 : Hid ((Try.prog.info? 29).map (·.size) = some (gathM L t S num).cells.toArray.size) := HI2.out.trans (by rw [List.size_toArray])
      clear hM2
      go_wp2_with (first | ((with_reducible refine st_row ?_ 29 (.tmp 8) (.tmp 65) ?_ w.heap.size 0 (gathM L t S num).cells ?_ ?_ ht HI2.out H2.out ?_); exact rfl; exact rfl; exact rfl; exact rfl) | ((with_reducible refine ld_mach ?_ (.tmp 9) ?_ (w.heap.size + 1) 0 ?_ (gathM L t S num) hm1 hw1 ?_); exact rfl; exact rfl; exact rfl))
      exact bodyPost_ret (v := .agg (gathM L t S num).cells.toArray) (results_cell_row Try.results159 _ _ w.heap.size 29 (gathM L t S num).cells.toArray (0, 0) (.struct _) rfl HB.out Try.underlying29 rfl HI5.out) rfl ⟨rfl, HM2.out.below⟩
end Go.Proofs.Yteagecoiijhflaa

/- (*table).machineFrom: the machine of state 0 of a table. -/
namespace Go.Proofs.Yteagecoiijhflaa
open Go.RowKit
set_option linter.unusedVariables false
set_option linter.unusedSimpArgs false

/-- the beginning of a region in drawn order, the world a letter of which Φ is known -/
theorem region_A {P : Program} {ops : Array Oper} {Q : Exit → Act → World → Prop} {id : Nat} {a : Act} {w : World} (S : World → Prop) (L : List Nat) (n : Nat) (Φ : World → Prop) (hn : ops.size = n) (hm : P.follows .mixedOrders = true) (hΦ : Φ w.drew) (hS : ∀ w, Φ w → S w)
    (h : ∀ w, Φ w → Upto S L (Array.replicate n false) w → AnyS P .any ops Q S L n (Array.replicate n false) a w) : (Code.region id ops true).wp P Q a w :=
  region_S S L n hn hm (hS _ hΦ) fun hU => h _ hΦ hU
theorem results_ct {P : Program} {fn : Func} {p q : Tmp} {ty : TypeId} (h : fn.results = #[.cell p ty, .tmp q]) (tmps : Array Value) (w : World) (g : Nat) (t : TypeId) (cs : Array Value) (fr : Nat × Nat) (d : TypeDesc)
    (hp : tmps.getD p undef = .pointer (some ⟨g, 0, none⟩)) (hg : w.heap[g]? = some (.cells cs t fr))
    (hu : P.underlying ty = some d) (hd : (match d with | .struct _ | .array _ _ => true | _ => false) = true) (hi : (P.info? ty).map (·.size) = some cs.size) :
    (results fn tmps).run P w = .ok (.tuple #[.agg cs, tmps.getD q undef]) w := by
  have hp' : tmps[p]?.getD undef = .pointer (some ⟨g, 0, none⟩) := by simpa using hp
  simp [results, h, hp', asAddr, run_loadVar_row w g t ty cs fr d hg hu hd hi]
/-- a machine, or the code 3 -/
def RetM (r : Option Mch) (w : World) (e : Ending) (w' : World) : Prop := Below w.heap.size w w' ∧ match r with
  | none => e = .returned (.tuple #[.agg Try.zeroCells29, .int .i64 3])
  | some M => e = .returned (.tuple #[.agg M.cells.toArray, .int .i64 0])
theorem zero_ones : ∀ v ∈ Try.zeroCells29.toList, v.oneCell' = true := List.all_eq_true.1 (by kernel_rfl)
theorem natsI_len (S : List Nat) : (natsI S).length = S.length := by simp [natsI]
theorem natsI_get {S : List Nat} {i : Nat} (h : i < S.length) : (natsI S)[i]?.getD 0 = ((S[i]?.getD 0 : Nat) : Int) := by simp [natsI, List.getElem?_map, List.getElem?_eq_getElem h]
theorem natsI_mem {S : List Nat} {r : Nat} : (r : Int) ∈ natsI S ↔ r ∈ S := by
  simp only [natsI, List.mem_map]
  constructor
  · rintro ⟨x, hx, e⟩
    have : x = r := by omega
    rw [← this]; exact hx
  · intro h; exact ⟨r, h, rfl⟩
theorem natsI_idx (r : Nat) : ∀ S : List Nat, (natsI S).idxOf (r : Int) = S.idxOf r
  | [] => rfl
  | x :: S => by
    have ih := natsI_idx r S
    simp only [natsI, List.map_cons, List.idxOf_cons] at ih ⊢
    by_cases e : x = r
    · subst e; simp
    · have e1 : (x == r) = false := by simpa using e
      have e2 : ((x : Int) == (r : Int)) = false := by simp; omega
      rw [e1, e2]
      simp only [cond_false]
      rw [ih]
theorem idxI_nats {S : List Nat} {r : Nat} (h : r ∈ S) : idxI (natsI S) (r : Int) = (S.idxOf r : Int) := by
  rw [idxI, if_pos (natsI_mem.2 h), natsI_idx]
theorem natsI_ins (S : List Nat) (r : Nat) : decide ((r : Int) ∈ natsI S) = decide (r ∈ S) := by
  by_cases h : r ∈ S
  · rw [decide_eq_true h, decide_eq_true (natsI_mem.2 h)]
  · rw [decide_eq_false h, decide_eq_false fun k => h (natsI_mem.1 k)]

set_option maxHeartbeats 1000000 in
theorem machineFrom1_any (t : Tbl) (hn : t.n ≤ 1000) (b8 b9 : Nat) (aS aF : Option Addr) (cS cF : Nat) (S : List Nat) (hSl : S.length ≤ 1000) (r : Nat) (hr : r < t.n) (hm : t.fin r ∈ S) (w : World)
    (h9 : w.cell? ⟨b9, 0, none⟩ = some (.slice aS (natsI S).length cS)) (h8 : w.cell? ⟨b8, 0, none⟩ = some (.slice aF (finL t).length cF)) (hS : IntsAt w aS (natsI S)) (hF : IntsAt w aF (finL t)) :
    Calls Try.prog 160 #[.int .i64 (r : Int), .pointer (some ⟨b9, 0, none⟩), .pointer (some ⟨b8, 0, none⟩)] w (RetQ (.int .i64 (S.idxOf (t.fin r) : Int)) w) := by
  have HIX : Hid (∀ d, Calls Try.prog 154 #[.slice aS (natsI S).length cS, .int .i64 (t.fin r : Int)] (w.drewN d) (RetQ (.int .i64 (idxI (natsI S) (t.fin r : Int))) (w.drewN d))) := fun d =>
    slIndexI_any aS cS (natsI S) (t.fin r : Int) (by rw [natsI_len]; omega) (w.drewN d) (hS.keep (dN_below w d))
  have HV := Lib.hid (idxI_nats hm)
  obtain ⟨g, o, rfl, c⟩ := hF r (by rw [finL_len]; exact hr)
  rw [finL_get t hr] at c
  have i1 : (0 : Int) ≤ (r : Int) := by omega
  have i2 : (r : Int) < ((finL t).length : Int) := by rw [finL_len]; omega
  generalize t.fin r = fr at *
  clear hS hF hm
  go_enter Try.func160, Try.ntmps160
  go_wp2_with fail
  go_quiet ((go_at_call 154; exact Calls.quiet_of (HIX.out _)))
  go_wp2_with fail
  go_ret
  rw [HV.out]
  exact ⟨rfl, _, rfl⟩
theorem enters_mf1 : Enters 160 := fun args w => by kernel_rfl

theorem mwT_big {L : Int} {t : Tbl} (h : 16 < (ordT t).length) : mwT L t = none := if_pos h
theorem mwT_ok {L : Int} {t : Tbl} (h : ¬ 16 < (ordT t).length) : mwT L t = some (gathM L t (ordT t) fun r => (ordT t).idxOf (t.fin r)) := if_neg h

set_option maxRecDepth 100000 in
set_option maxHeartbeats 4000000 in
theorem machineFrom_any (t : Tbl) (hw : t.Wf) (hn : t.n ≤ 1000) (hn1 : 1 ≤ t.n) (hd : t.d ≤ 3) (T : Nat) (L : Int) (hL : -9223372036854775808 ≤ L ∧ L ≤ 9223372036854775807) (hot : ∀ q x, q < t.n → x < t.d → t.ot q x ≤ 255) (w : World) (hT : TabG w T t) :
    Calls Try.prog 146 #[.pointer (some ⟨T, 0, none⟩), .int .i64 L, .int .i64 0] w (RetM (mwT L t) w) := by
  have hmf : ∀ (fn : Fn) (first cap : Array Value) (w : World), (Instr.makeFunc fn first cap).run Try.prog w = .ok (.func fn first cap) w := fun _ _ _ _ => rfl
  obtain ⟨i0, hi0, hz0, hz1, hz2⟩ := info_parts Try.info2
  have HMX := Lib.hid (show Try.prog.follows .mixedOrders = true by kernel_rfl)
  obtain ⟨gN, cN, gO, cO, t1, t2, t3, t4⟩ := id hT
  have HT := Lib.hid hT
  have HT1 := Lib.hid t1
  have HT3 := Lib.hid t3
  have HOT := Lib.hid hot
  have HWF := Lib.hid hw
  have hM0 := (Mm.start w).alloc Try.zeroCells29 29
  have HLE := Lib.hid (least_any t hw hn (by omega) hn1 T (w.alloc (.cells Try.zeroCells29 29)) (hT.keep ((Below.refl _ w).alloc (Nat.le_refl _) _)))
  have HM0 := Lib.hid hM0
  clear hT t1 t2 t3 t4 hot hM0
  go_enter Try.func146, Try.ntmps146
  go_wp2_with fail
  refine HLE.out.mono ?_
  rintro e w1 ⟨v, rfl, hb1, hO1⟩
  obtain ⟨aF, cF, rfl, hIF⟩ := id hO1.form
  have hM1 := (HM0.out.callOwn hb1 (v := .slice aF (finL t).length cF) (E := 2) (n := (finL t).length) (xs := i64s (finL t)) hO1 (by simp [i64s])).alloc #[.slice aF (finL t).length cF] 26
  have hI2 := hIF.keep ((Below.refl _ w1).alloc (Nat.le_refl _) (.cells #[.slice aF (finL t).length cF] 26))
  obtain ⟨gF, oF, eF, cz⟩ := hI2 0 (by rw [finL_len]; omega)
  subst eF
  rw [finL_get t (by omega), Nat.add_zero] at cz
  have c8 := (hM1.at 0 rfl).cell' (i := 0) rfl
  have hM2 := hM1.newOwn #[.int .i64 (t.fin 0 : Int)] 2 1 rfl (by omega)
  rw [World.size_alloc] at hM2
  have hM3 := hM2.alloc #[.slice (some ⟨w1.heap.size + 1, 0, none⟩) 1 1] 26
  have HFL := Lib.hid (finL_len t)
  have f1 : (0 : Int) < ((finL t).length : Int) := by rw [finL_len]; omega
  have HM3 := Lib.hid hM3
  have HI2 := Lib.hid hI2
  clear HM0 HLE hO1 hIF hb1 hM1 hM2 hM3 hI2
  go_wp2_with fail
  obtain ⟨W3, hW3⟩ : ∃ W, W = ((w1.alloc (.cells #[.slice (some ⟨gF, oF, none⟩) (finL t).length cF] 26)).alloc (.cells #[.int .i64 (t.fin 0 : Int)] 2)).alloc (.cells #[.slice (some ⟨w1.heap.size + 1, 0, none⟩) 1 1] 26) := ⟨_, rfl⟩
  have HM4 : Hid (Mm w.heap.size w W3 [(w1.heap.size + 1 + 1, [.slice (some ⟨w1.heap.size + 1, 0, none⟩) 1 1], 26), (w1.heap.size, [.slice (some ⟨gF, oF, none⟩) (finL t).length cF], 26), (w.heap.size, Try.zeroCells29.toList, 29)]
      [(.slice (some ⟨w1.heap.size + 1, 0, none⟩) 1 1, 2, i64s (natsI (bfsN t 0))), (.slice (some ⟨gF, oF, none⟩) (finL t).length cF, 2, i64s (finL t))]) := by
    have h := HM3.out
    simp only [World.size_alloc] at h
    rw [hW3]; exact h
  rw [← hW3]
  clear HM3 HI2 cz c8 hW3
  generalize w1.heap.size + 1 + 1 = b9 at *
  generalize w1.heap.size + 1 = bs at *
  generalize w1.heap.size = b8 at *
  go_loopw [10] (fun iv wr => ∃ (i : Nat) (vS : Value), i ≤ t.n ∧ iv = .int .i64 (i : Int) ∧ i ≤ (bfsN t i).length ∧ Mm w.heap.size w wr [(b9, [vS], 26), (b8, [.slice (some ⟨gF, oF, none⟩) (finL t).length cF], 26), (w.heap.size, Try.zeroCells29.toList, 29)]
      [(vS, 2, i64s (natsI (bfsN t i))), (.slice (some ⟨gF, oF, none⟩) (finL t).length cF, 2, i64s (finL t))]) (fun i _ => t.n + 1 - (intOf i).toNat)
  case atStart => exact ⟨0, _, Nat.zero_le _, rfl, Nat.zero_le _, HM4.out⟩
  case round =>
    clear HM4
    obtain ⟨i, vS, hi, rfl, hil, hM⟩ := hrel
    have hok := bfsN_ok HWF.out hn1 i
    have hlen := hok.len
    have ei : IntKind.i64.wrap ((i : Int) + 1) = (i : Int) + 1 := IntWalk.i64_in _ (by omega)
    have c9 := (hM.at 0 rfl).cell' (i := 0) rfl
    have c8 := (hM.at 1 rfl).cell' (i := 0) rfl
    have HOS := Lib.hid (OwnI.of_row (hM.own _ (List.mem_cons_self ..)))
    obtain ⟨aS, cS, eS, hIS⟩ := HOS.out.form
    rw [natsI_len] at eS
    subst eS
    have hIF := hM.intsAt 1 rfl
    have HIS := Lib.hid hIS
    have HIF := Lib.hid hIF
    by_cases hlt : i < (bfsN t i).length
    · have HBS := Lib.hid (bfsN_step hlt)
      have HIL : Hid (i + 1 ≤ (bfsN t (i + 1)).length ∧ i + 1 ≤ t.n) := by
        obtain ⟨R, hR⟩ := bfsX_pre t ((bfsN t i)[i]?.getD 0) (bfsN t i) t.d
        refine ⟨?_, by omega⟩
        rw [HBS.out, hR, List.length_append]; omega
      have hq := bfsN_at HWF.out hn1 hlt
      obtain ⟨gs, os, rfl, cs⟩ := hIS i (by rw [natsI_len]; exact hlt)
      rw [natsI_get hlt] at cs
      have HOKB := Lib.hid hok
      generalize bfsN t i = Sq at *
      generalize Sq[i]?.getD 0 = q at *
      obtain ⟨g1, c1, d1, d2⟩ := HT3.out q hq
      have ct := (hM.below.cell (World.block_lt_of_cell? _ _ HT1.out)).trans HT1.out
      have cn := (hM.below.cell (World.block_lt_of_cell? _ _ d1)).trans d1
      have HD2 := Lib.hid d2
      have HQ := Lib.hid hq
      have i1 : (0 : Int) ≤ (i : Int) := by omega
      have i2 : (i : Int) < (Sq.length : Int) := by omega
      have i3 : (0 : Int) ≤ (q : Int) := by omega
      have i4 : (q : Int) < (t.n : Int) := by omega
      clear d1 d2 hIS hIF hok
      go_wp2_with fail
      go_quiet (fail)
      go_wp2_with fail
      clear c9 c8 cs ct cn
      have HMd : Hid (∀ d, Mm w.heap.size w (wr.drewN d) [(b9, [.slice (some ⟨gs, os, none⟩) Sq.length cS], 26), (b8, [.slice (some ⟨gF, oF, none⟩) (finL t).length cF], 26), (w.heap.size, Try.zeroCells29.toList, 29)]
        [(.slice (some ⟨gs, os, none⟩) Sq.length cS, 2, i64s (natsI Sq)), (.slice (some ⟨gF, oF, none⟩) (finL t).length cF, 2, i64s (finL t))]) := fun d => hM.drewN d
      clear hM
      go_loopw [37] (fun xv wi => ∃ (x : Nat) (vS : Value), x ≤ t.d ∧ xv = .int .i64 (x : Int) ∧ Mm w.heap.size w wi [(b9, [vS], 26), (b8, [.slice (some ⟨gF, oF, none⟩) (finL t).length cF], 26), (w.heap.size, Try.zeroCells29.toList, 29)]
        [(vS, 2, i64s (natsI (bfsX t q Sq x))), (.slice (some ⟨gF, oF, none⟩) (finL t).length cF, 2, i64s (finL t))]) (fun i _ => t.d - (intOf i).toNat)
      case atStart => exact ⟨0, _, Nat.zero_le _, rfl, HMd.out _⟩
      case round =>
        clear HMd HOS HIS HIF
        obtain ⟨x, vS, hx, rfl, hM⟩ := hrel
        have ex : IntKind.i64.wrap ((x : Int) + 1) = (x : Int) + 1 := IntWalk.i64_in _ (by omega)
        by_cases hxl : x < t.d
        · have hR := HOKB.out.row HWF.out HQ.out x hx
          have hRl := hR.len
          have HIN : Hid (bfsX t q Sq (x + 1) = insN (bfsX t q Sq x) (t.fin (t.nx q x))) := rfl
          have cx := (hM.below.cell (World.block_lt_of_cell? _ _ (HD2.out x hxl))).trans (HD2.out x hxl)
          have hnr := HWF.out q x HQ.out hxl
          have c9 := (hM.at 0 rfl).cell' (i := 0) rfl
          have c8 := (hM.at 1 rfl).cell' (i := 0) rfl
          obtain ⟨aS2, cS2, eS, hIS⟩ := (OwnI.of_row (hM.own _ (List.mem_cons_self ..))).form
          rw [natsI_len] at eS
          subst eS
          have hIF := hM.intsAt 1 rfl
          obtain ⟨gf2, of2, eF2, cf⟩ := hIF (t.nx q x) (by rw [finL_len]; exact hnr)
          injection eF2 with eF2
          injection eF2 with eF3 eF4
          subst eF3 eF4
          rw [finL_get t hnr] at cf
          have j1 : (0 : Int) ≤ (x : Int) := by omega
          have j2 : (x : Int) < (t.d : Int) := by omega
          have j3 : (0 : Int) ≤ (t.nx q x : Int) := by omega
          have j4 : (t.nx q x : Int) < ((finL t).length : Int) := by rw [finL_len]; omega
          generalize bfsX t q Sq x = R at *
          generalize t.nx q x = nr at *
          have HCN : Hid (∀ d, Calls Try.prog 140 #[.slice aS2 R.length cS2, .int .i64 (t.fin nr : Int)] (wr.drewN d) (RetQ (.bool (decide (t.fin nr ∈ R))) (wr.drewN d))) := fun d => by
            have h := slContainsI_any aS2 cS2 (natsI R) (t.fin nr : Int) (by rw [natsI_len]; omega) (wr.drewN d) (hIS.keep (dN_below wr d))
            rwa [natsI_ins, natsI_len] at h
          generalize hfr : t.fin nr = fr at *
          have HFR : Hid (t.fin nr = fr) := hfr
          clear hfr
          by_cases hmem : fr ∈ R
          · have HI2 : Hid (bfsX t q Sq (x + 1) = R) := by show _ = _; rw [HIN.out, insN, if_pos hmem]
            rw [decide_eq_true hmem] at HCN
            have HMd : Hid (∀ d, Mm w.heap.size w (wr.drewN d) [(b9, [.slice aS2 R.length cS2], 26), (b8, [.slice (some ⟨gF, oF, none⟩) (finL t).length cF], 26), (w.heap.size, Try.zeroCells29.toList, 29)]
              [(.slice aS2 R.length cS2, 2, i64s (natsI R)), (.slice (some ⟨gF, oF, none⟩) (finL t).length cF, 2, i64s (finL t))]) := fun d => hM.drewN d
            clear hM hmem hIS hIF HIN hR
            go_wp2_with fail
            go_quiet ((go_at_call 140; exact Calls.quiet_of (HCN.out _)))
            go_wp2_with fail
            go_roundw
            case rel => exact ⟨x + 1, _, by omega, by go_num, by rw [HI2.out]; exact HMd.out _⟩
            case measure => simp [intOf] <;> omega
          · have HI2 : Hid (bfsX t q Sq (x + 1) = R ++ [fr]) := by show _ = _; rw [HIN.out, insN, if_neg hmem]
            rw [decide_eq_false hmem] at HCN
            have HMd : Hid (∀ d, Mm w.heap.size w (wr.drewN d).drew [(b9, [.slice aS2 R.length cS2], 26), (b8, [.slice (some ⟨gF, oF, none⟩) (finL t).length cF], 26), (w.heap.size, Try.zeroCells29.toList, 29)]
              [(.slice aS2 R.length cS2, 2, i64s (natsI R)), (.slice (some ⟨gF, oF, none⟩) (finL t).length cF, 2, i64s (finL t))]) := fun d => (hM.drewN d).drew
            have HSF : Hid (∀ W, IntsAt W (some ⟨gF, oF, none⟩) (finL t) → W.cell? ⟨gF, oF + nr, none⟩ = some (.int .i64 (fr : Int))) := fun W h => by
              obtain ⟨g, o, e, c⟩ := h nr (by rw [finL_len]; exact hnr)
              injection e with e
              injection e with e1 e2
              subst e1 e2
              rw [finL_get t hnr, HFR.out] at c
              exact c
            have hRl2 : (i64s (natsI R)).length ≤ 1000000 := by simp only [i64s, List.length_map, natsI_len]; omega
            have HRL := Lib.hid hRl2
            clear hM hmem hIS hIF HIN hR hRl2
            go_wp2_with fail
            go_quiet ((go_at_call 140; exact Calls.quiet_of (HCN.out _)))
            go_wp2_with fail
            clear c9 c8 cf cx HCN
            refine region_A (fun W => (W.cell? ⟨b9, 0, none⟩ = some (.slice aS2 R.length cS2) ∧ W.cell? ⟨b8, 0, none⟩ = some (.slice (some ⟨gF, oF, none⟩) (finL t).length cF)) ∧ W.cell? ⟨gF, oF + nr, none⟩ = some (.int .i64 (fr : Int))) [7] 8 (fun W => Mm w.heap.size w W [(b9, [.slice aS2 R.length cS2], 26), (b8, [.slice (some ⟨gF, oF, none⟩) (finL t).length cF], 26), (w.heap.size, Try.zeroCells29.toList, 29)]
              [(.slice aS2 R.length cS2, 2, i64s (natsI R)), (.slice (some ⟨gF, oF, none⟩) (finL t).length cF, 2, i64s (finL t))]) rfl HMX.out (HMd.out _) (fun W h => ⟨⟨(h.at 0 rfl).cell' rfl, (h.at 1 rfl).cell' rfl⟩, HSF.out _ (h.intsAt 1 rfl)⟩) (fun W hM hU => ?_)
            clear HMd
            (refine AnyS.takeS (i := 0) rfl (by kernel_rfl) (by kernel_rfl) (by kernel_rfl) (by rfl) (by kernel_rfl) (by kernel_rfl) (fun _ _ _ h => h) (by rfl) (by intro W hSw; have h1 := hSw.1.1; clear hSw; go_simp; with_reducible rfl) hU (fun hU => ?_); (try simp only [Act.put, List.setIfInBounds_toArray, List.set_cons_zero, List.set_cons_succ]))
            (refine AnyS.takeS (i := 1) rfl (by kernel_rfl) (by kernel_rfl) (by kernel_rfl) (by rfl) (by kernel_rfl) (by kernel_rfl) (fun _ _ _ h => h) (by rfl) (by intro W hSw; have h1 := hSw.1.2; clear hSw; go_simp; with_reducible rfl) hU (fun hU => ?_); (try simp only [Act.put, List.setIfInBounds_toArray, List.set_cons_zero, List.set_cons_succ]))
            (refine AnyS.take (i := 2) rfl (by kernel_rfl) (by kernel_rfl) (by kernel_rfl) (by rfl) (fun _ _ _ h => h) (by rfl) (by intro w; go_simp; with_reducible rfl) hU (fun hU => ?_); (try simp only [Act.put, List.setIfInBounds_toArray, List.set_cons_zero, List.set_cons_succ]); refine AnyS.take (i := 3) rfl (by kernel_rfl) (by kernel_rfl) (by kernel_rfl) (by rfl) (fun _ _ _ h => h) (by rfl) (by intro w; go_simp; with_reducible rfl) hU (fun hU => ?_); (try simp only [Act.put, List.setIfInBounds_toArray, List.set_cons_zero, List.set_cons_succ]))
            (refine AnyS.takeS (i := 4) rfl (by kernel_rfl) (by kernel_rfl) (by kernel_rfl) (by rfl) (by kernel_rfl) (by kernel_rfl) (fun _ _ _ h => h) (by rfl) (by intro W hSw; have h1 := hSw.2; clear hSw; go_simp; with_reducible rfl) hU (fun hU => ?_); (try simp only [Act.put, List.setIfInBounds_toArray, List.set_cons_zero, List.set_cons_succ]))
            (refine AnyS.branch (rs := [5]) (by kernel_rfl) (List.cons_ne_nil _ _) ?_; refine AllS.cons rfl ?_ AllS.nil; intro K hK)
            have hM5 := hM.alloc #[.int .i64 (fr : Int)] 2
            go_simp
            refine hK.out _ _ (.inl ⟨⟨(hM5.at 1 rfl).cell' rfl, (hM5.at 2 rfl).cell' rfl⟩, HSF.out _ (hM5.intsAt 1 rfl)⟩) (fun hU => ?_)
            clear hK K hM
            (try simp only [Act.put, List.setIfInBounds_toArray, List.set_cons_zero, List.set_cons_succ])
            generalize W.alloc (.cells #[.int .i64 (fr : Int)] 2) = W5 at *
            generalize W.heap.size = b5 at *
            (refine AnyS.branch (rs := [6]) (by kernel_rfl) (List.cons_ne_nil _ _) ?_; refine AllS.cons rfl ?_ AllS.nil; intro K hK)
            have hbl := hM5.blk _ (List.mem_cons_self ..)
            refine Mm.stepRow rfl (.tmp 48) (.tmp 53) 26 rfl hM5 0 rfl Try.underlying26 hi0 hz0 hz1 hz2 rfl rfl rfl (n := 1) rfl (blk_own hbl.1 hbl.2 1 rfl (by omega)) (by simp [Value.oneCell']) HRL.out (by simp) (by omega) ?_
            intro v6 W6 hM6
            (try simp only [List.set_cons_zero] at hM6)
            refine hK.out _ _ (.inl ⟨⟨(hM6.at 1 rfl).cell' rfl, (hM6.at 2 rfl).cell' rfl⟩, HSF.out _ (hM6.intsAt 1 rfl)⟩) (fun hU => ?_)
            clear hK K hbl hM5
            (try simp only [Act.put, List.setIfInBounds_toArray, List.set_cons_zero, List.set_cons_succ])
            obtain ⟨g6, c6, rfl⟩ : ∃ g6 c6, v6 = .slice (some ⟨g6, 0, none⟩) ((i64s (natsI R)).length + 1) c6 := by
              have ho := hM6.own _ (List.mem_cons_self ..)
              simp only at ho
              obtain ⟨g, c, e, -, -, -⟩ := own_form ho (by simp)
              exact ⟨g, c, by rw [e]; simp⟩
            (refine AnyS.branch (rs := [7]) (by kernel_rfl) (List.cons_ne_nil _ _) ?_; refine AllS.cons rfl ?_ AllS.nil; intro K hK)
            have c9 := (hM6.at 1 rfl).cell' (i := 0) rfl
            have f9 := (hM6.at 1 rfl).free 0
            have hM7 := hM6.setCell 1 rfl 0 (.slice (some ⟨g6, 0, none⟩) ((i64s (natsI R)).length + 1) c6)
            (try simp only [List.set_cons_zero, List.set_cons_succ] at hM7)
            have HM7 := Lib.hid hM7
            clear hM6 hM7
            go_simp
            refine hK.out _ _ (.inr ⟨7, by simp, by rfl⟩) (fun hU => ?_)
            clear hK K c9 f9
            (try simp only [Act.put, List.setIfInBounds_toArray, List.set_cons_zero, List.set_cons_succ])
            refine AnyS.done (by kernel_rfl) ?_ _
            clear hU
            have HM8 : Hid (Mm w.heap.size w (W6.setCell ⟨b9, 0, none⟩ (.slice (some ⟨g6, 0, none⟩) ((i64s (natsI R)).length + 1) c6)) [(b9, [.slice (some ⟨g6, 0, none⟩) ((i64s (natsI R)).length + 1) c6], 26), (b8, [.slice (some ⟨gF, oF, none⟩) (finL t).length cF], 26), (w.heap.size, Try.zeroCells29.toList, 29)]
              [(.slice (some ⟨g6, 0, none⟩) ((i64s (natsI R)).length + 1) c6, 2, i64s (natsI (bfsX t q Sq (x + 1)))), (.slice (some ⟨gF, oF, none⟩) (finL t).length cF, 2, i64s (finL t))]) := by
              have h := HM7.out.sub (List.sublist_cons_self _ _)
              have e : i64s (natsI (R ++ [fr])) = i64s (natsI R) ++ [Value.int .i64 (fr : Int)] := by simp [i64s, natsI]
              rw [HI2.out, e]
              exact h
            clear HM7
            generalize W6.setCell ⟨b9, 0, none⟩ (.slice (some ⟨g6, 0, none⟩) ((i64s (natsI R)).length + 1) c6) = W7 at *
            go_wp2_with fail
            go_roundw
            case rel => exact ⟨x + 1, _, by omega, by go_num, HM8.out⟩
            case measure => simp [intOf] <;> omega
        · have hx' : x = t.d := by omega
          subst hx'
          rw [← HBS.out] at hM
          go_wp2_with fail
          go_roundw
          case rel => exact ⟨i + 1, _, HIL.out.2, by go_num, HIL.out.1, hM⟩
          case measure => simp [intOf] <;> omega
    · have hEq : ordT t = bfsN t i := ordT_end HWF.out hn1 (by omega)
      have hEl : i = (bfsN t i).length := by omega
      rw [← hEq] at hEl hM hok c9 hIS
      by_cases h16 : 16 < (ordT t).length
      · have HR := Lib.hid (mwT_big (L := L) h16)
        have j1 : (16 : Int) < ((ordT t).length : Int) := by omega
        have ht := (hM.at 2 rfl).there 0 Try.zeroCells29.toList.length (by simp)
        have hM2 := hM.setAll 2 rfl (vs := Try.zeroCells29.toList) rfl
        have HB := Lib.hid (hM2.at 2 rfl)
        have HM2 := Lib.hid hM2
        have HIZ : Hid ((Try.prog.info? 29).map (·.size) = some Try.zeroCells29.toList.length) := by show _ = _; rw [zero_len]; kernel_rfl
        have HOZ : Hid (∀ v ∈ Try.zeroCells29.toList, v.oneCell' = true) := zero_ones
        have HI5 : Hid ((Try.prog.info? 29).map (·.size) = some Try.zeroCells29.size) := by show _ = _; rw [HIZ.out, Array.length_toList]
        clear hM2 hM hIS hIF hok hEq
        go_wp2_with ((with_reducible refine st_row ?_ 29 (.tmp 6) (.tmp 59) ?_ w.heap.size 0 Try.zeroCells29.toList ?_ ?_ ht HIZ.out HOZ.out ?_); exact rfl; exact rfl; exact rfl; exact rfl)
        refine bodyPost_ret (v := .tuple #[.agg Try.zeroCells29, .int .i64 3]) (results_ct Try.results146 _ _ w.heap.size 29 Try.zeroCells29 (0, 0) (.struct _) rfl HB.out Try.underlying29 rfl HI5.out) rfl ?_
        rw [HR.out]
        exact ⟨HM2.out.below, rfl⟩
      · have HR := Lib.hid (mwT_ok (L := L) h16)
        have j1 : ¬ (16 : Int) < ((ordT t).length : Int) := by omega
        have hSlt : ∀ i, i < (ordT t).length → (ordT t)[i]?.getD 0 < t.n := fun i hi => bfsN_at HWF.out hn1 hi
        have hnx : ∀ i x, i < (ordT t).length → x < t.d → t.fin (t.nx ((ordT t)[i]?.getD 0) x) ∈ ordT t := fun i x hi hx => ordT_next HWF.out hn1 hi hx
        have HGA := Lib.hid (gathered_any t HWF.out hn hd T L hL (ordT t) (by omega) hSlt (fun r => (ordT t).idxOf (t.fin r)) (fun i x hi hx => by have := List.idxOf_lt_length_iff.2 (hnx i x hi hx); omega) (fun i x hi hx => HOT.out _ _ (hSlt i hi) hx)
          160 enters_mf1 #[.pointer (some ⟨b9, 0, none⟩), .pointer (some ⟨b8, 0, none⟩)] aS cS wr (HT.out.keep hM.below) hIS (fun W hW i x hi hx => by
            have h9 := (hW.cell (World.block_lt_of_cell? _ _ c9)).trans c9
            have h8 := (hW.cell (World.block_lt_of_cell? _ _ c8)).trans c8
            rw [← natsI_len] at h9
            exact machineFrom1_any t hn b8 b9 aS (some ⟨gF, oF, none⟩) cS cF (ordT t) (by omega) _ (HWF.out _ _ (hSlt i hi) hx) (hnx i x hi hx) W h9 h8 (hIS.keep hW) (hIF.keep hW)))
        have hwf := gathM_wf (L := L) (t := t) (S := ordT t) (num := fun r => (ordT t).idxOf (t.fin r)) hL (by omega) (fun i x hi hx => by have := List.idxOf_lt_length_iff.2 (hnx i x hi hx); omega) (fun i x hi hx => HOT.out _ _ (hSlt i hi) hx)
        have HIM := Lib.hid (mach_infoT hwf)
        have HOM := Lib.hid (mach_ones (gathM L t (ordT t) fun r => (ordT t).idxOf (t.fin r)))
        have hlenM := Mch.cells_length hwf
        have HM := Lib.hid hM
        generalize gathM L t (ordT t) (fun r => (ordT t).idxOf (t.fin r)) = MM at *
        clear hM hIS hIF hok hEq hSlt hnx hwf
        go_wp2_with fail
        refine HGA.out.mono ?_
        rintro e w5 ⟨rfl, hb5⟩
        have hM5 := HM.out.call hb5
        have ht := (hM5.at 2 rfl).there 0 MM.cells.length (by simp only; rw [zero_len, hlenM]; omega)
        have hM2 := hM5.setAll 2 rfl (vs := MM.cells) (by rw [zero_len, hlenM])
        have HB := Lib.hid (hM2.at 2 rfl)
        have HM2 := Lib.hid hM2
        have HI5 : Hid ((Try.prog.info? 29).map (·.size) = some MM.cells.toArray.size) := HIM.out.trans (by rw [List.size_toArray])
        clear hM2 hM5 HGA HM hb5
        go_wp2_with ((with_reducible refine st_row ?_ 29 (.tmp 6) (.tmp 64) ?_ w.heap.size 0 MM.cells ?_ ?_ ht HIM.out HOM.out ?_); exact rfl; exact rfl; exact rfl; exact rfl)
        refine bodyPost_ret (v := .tuple #[.agg MM.cells.toArray, .int .i64 0]) (results_ct Try.results146 _ _ w.heap.size 29 MM.cells.toArray (0, 0) (.struct _) rfl HB.out Try.underlying29 rfl HI5.out) rfl ?_
        rw [HR.out]
        exact ⟨HM2.out.below, rfl⟩
end Go.Proofs.Yteagecoiijhflaa
