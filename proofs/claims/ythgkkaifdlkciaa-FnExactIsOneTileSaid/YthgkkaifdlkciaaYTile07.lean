import Derived.Test.YthgkkaifdlkciaaYTile06
import Derived.Test.YthgkkaifdlkciaaYTile05
/- Tiles: which words of a level are joined; the program's table. -/
namespace Go.Proofs.Ythgkkaifdlkciaa
open Go.RowKit
set_option linter.unusedVariables false
set_option linter.unusedSimpArgs false

/-! pure -/
def upd1 (M : Nat → Nat → Bool) (k l : Nat) : Nat → Nat → Bool := fun a b => if a = k ∧ b = l then true else M a b
def imgN (m : Mch) (n q k : Nat) : Nat := numL m.l (wimg m n q k)
def tileB (m : Mch) (n q k : Nat) : Bool := trivB m (wsec m n q k) && imgN m n q k != k
def tileQ (m : Mch) (n k : Nat) (M : Nat → Nat → Bool) : Nat → Nat → Nat → Bool
  | 0 => M
  | q + 1 => if tileB m n q k then upd1 (upd1 (tileQ m n k M q) k (imgN m n q k)) (imgN m n q k) k else tileQ m n k M q
def tileK (m : Mch) (n : Nat) : Nat → Nat → Nat → Bool
  | 0 => fun _ _ => false
  | k + 1 => tileQ m n k (tileK m n k) m.s
theorem imgN_lt {m : Mch} (hok : m.Ok) (hwf : m.Wf) {q : Nat} (hq : q < m.s) (n k : Nat) : imgN m n q k < m.l ^ n := by
  have := numL_lt (wimg m n q k) (wimg_lt hok hwf hq n k)
  rwa [wimg_length] at this
theorem img_lets {m : Mch} (hok : m.Ok) (hwf : m.Wf) {q : Nat} (hq : q < m.s) (n k : Nat) : letsP m.l (txt (wimg m n q k)) = true := by
  have h3 := hok.l_le
  exact letsP_txt (fun x hx => by have := wimg_lt hok hwf hq n k x hx; omega) (fun x hx => by have := wimg_lt hok hwf hq n k x hx; omega)
theorem img_lts {m : Mch} (hok : m.Ok) (hwf : m.Wf) {q : Nat} (hq : q < m.s) (n k : Nat) : lts (txt (wimg m n q k)) = wimg m n q k := by
  have h3 := hok.l_le
  exact lts_txt (fun x hx => by have := wimg_lt hok hwf hq n k x hx; omega)

/-! tables of bools -/
/-- v reads as the table M of P rows and columns -/
def BoolM (w : World) (v : Value) (P : Nat) (M : Nat → Nat → Bool) : Prop := ∃ bo c, v = .slice (some ⟨bo, 0, none⟩) P c ∧ ∀ k, k < P → ∃ g c', w.cell? ⟨bo, k, none⟩ = some (.slice (some ⟨g, 0, none⟩) P c') ∧ ∀ l, l < P → w.cell? ⟨g, l, none⟩ = some (.bool (M k l))
def hds (g : Nat → Nat) (P k : Nat) : List Value := (List.range P).map fun i => if i < k then .slice (some ⟨g i, 0, none⟩) P P else .slice none 0 0
def rowsB (g : Nat → Nat) (P k : Nat) (M : Nat → Nat → Bool) : List (Nat × List Value × TypeId) := (List.range k).map fun i => (g i, bvs P (M i), 4)
theorem hds_get {g : Nat → Nat} {P k i : Nat} (h : i < P) : (hds g P k)[i]? = some (if i < k then .slice (some ⟨g i, 0, none⟩) P P else .slice none 0 0) := by simp [hds, h]
theorem hds_len (g : Nat → Nat) (P k : Nat) : (hds g P k).length = P := by simp [hds]
theorem rowsB_get {g : Nat → Nat} {P k i : Nat} (M : Nat → Nat → Bool) (h : i < k) : (rowsB g P k M)[i]? = some (g i, bvs P (M i), 4) := by simp [rowsB, h]
theorem rowsB_set (g : Nat → Nat) (P n : Nat) (M : Nat → Nat → Bool) {k l : Nat} (hk : k < n) (hl : l < P) : (rowsB g P n M).set k (g k, (bvs P (M k)).set l (.bool true), 4) = rowsB g P n (upd1 M k l) := by
  apply List.ext_getElem?
  intro i
  by_cases hi : i < n
  · rw [rowsB_get _ hi]
    by_cases e : i = k
    · subst e
      rw [List.getElem?_set_self (by simpa [rowsB] using hi), bvs_set _ _ hl]
      congr 3
      congr 1
      funext b
      simp only [upd, upd1, true_and]
    · rw [List.getElem?_set_ne (Ne.symm e), rowsB_get _ hi, show upd1 M k l i = M i from funext fun b => by simp [upd1, e]]
  · rw [List.getElem?_eq_none (by simp [rowsB]; omega), List.getElem?_eq_none (by simp [rowsB]; omega)]
theorem hds_set (g : Nat → Nat) {P k : Nat} (b : Nat) (hk : k < P) : (hds g P k).set k (.slice (some ⟨b, 0, none⟩) P P) = hds (fun i => if i = k then b else g i) P (k + 1) := by
  apply List.ext_getElem?
  intro i
  by_cases hi : i < P
  · rw [hds_get hi]
    by_cases e : i = k
    · subst e
      rw [List.getElem?_set_self (by rw [hds_len]; exact hi), if_pos (by omega), if_pos rfl]
    · rw [List.getElem?_set_ne (Ne.symm e), hds_get hi]
      by_cases h : i < k
      · rw [if_pos h, if_pos (by omega), if_neg e]
      · rw [if_neg h, if_neg (by omega)]
  · rw [List.getElem?_eq_none (by rw [List.length_set, hds_len]; omega), List.getElem?_eq_none (by rw [hds_len]; omega)]
theorem rowsB_succ (g : Nat → Nat) (P k b : Nat) (M : Nat → Nat → Bool) : rowsB (fun i => if i = k then b else g i) P (k + 1) M = rowsB g P k M ++ [(b, bvs P (M k), 4)] := by
  simp only [rowsB, List.range_succ, List.map_append, List.map_cons, List.map_nil]
  congr 1
  · apply List.map_congr_left
    intro i hi
    have : i < k := by simpa using hi
    rw [if_neg (by omega)]

theorem Try.info57 : (Try.prog.info? 57).map (fun i => (i.zero, i.size, i.bytes)) = some (some (.slice none 0 0), 1, 24) := by kernel_rfl
/-- 'make([][]bool, n)' -/
theorem mk_bb (n : Nat) (hn : n ≤ 100000) (u : World) : (Instr.makeSlice 54 (.int .i64 (n : Int)) (.int .i64 (n : Int))).run Try.prog u =
    .ok (.slice (some ⟨u.heap.size, 0, none⟩) n n) (u.alloc (.cells (madeCells #[.slice none 0 0] n) 57)) := by
  obtain ⟨i0, hi, hz0, hz1, hz2⟩ := info_parts Try.info57
  have h := run_make (P := Try.prog) u 54 57 i0 (.slice none 0 0) Try.underlying54 hi hz0 .i64 .i64 (n : Int) (n : Int) (by omega) (Int.le_refl _) (by rw [hz2]; omega) (by omega)
  simpa [hz1, Value.cells] using h
theorem made_bb (g : Nat → Nat) (n : Nat) : (madeCells #[Value.slice none 0 0] n).toList = hds g n 0 := by
  simp only [madeCells, Array.toList_map, Array.toList_range, hds]
  exact List.map_congr_left fun x _ => by simp [Nat.mod_one]

set_option maxRecDepth 100000 in
set_option maxHeartbeats 4000000 in
theorem tiles_any (b : Nat) (m : Mch) (hwf : m.Wf) (hok : m.Ok) (n : Nat) (hn : n + m.l ≤ 7) (w : World) (hm : MAt w b 0 m) :
    Calls Try.prog 39 #[.pointer (some ⟨b, 0, none⟩), .int .i64 n] w fun e w' => ∃ v, e = .returned v ∧ Below w.heap.size w w' ∧ BoolM w' v (m.l ^ n) (tileK m n (m.l ^ n)) := by
  have hbw : b < w.heap.size := World.block_lt_of_cell? w ⟨b, 0, none⟩ hm.l
  have hl2 := hok.l_ge
  have hl3 := hok.l_le
  have hs16 := hok.s_le
  have hp := pow_level hl2 hl3 hn
  have hp0 : 0 < m.l ^ n := Nat.pow_pos (by omega)
  go_enter Try.func39, Try.ntmps39
  go_wp2_with fail
  refine (table_any b 0 m hwf hok _ hm).mono ?_
  rintro e w1 ⟨T, rfl, hb1, hT⟩
  have hR := hT.reads hok.s_pos
  have hm1 := hm.keep hb1 hwf
  go_wp2_with fail
  refine (tableTrivial_any T m hwf hok _ hR).mono ?_
  rintro e w2 ⟨gt, rfl, hb2, hBt⟩
  have hm2 := hm1.keep hb2 hwf
  have hbb2 := hb1.trans (hb2.mono hb1.size)
  have hcl : w2.cell? ⟨b, 0, none⟩ = some (.int .i64 (m.l : Int)) := by rw [← hok.L_eq]; exact hm2.l
  go_wp2_with fail
  refine (level_any m.l n hl2 hl3 hn _).mono ?_
  rintro e w3 ⟨v3, rfl, hb3, hS⟩
  have hbb3 := hbb2.trans (hb3.mono hbb2.size)
  have hm3 := hm2.keep hb3 hwf
  have hB3 := hBt.keep hb3
  obtain ⟨P, hP⟩ : ∃ P, P = m.l ^ n := ⟨_, rfl⟩
  rw [← hP] at hp hp0 hS
  obtain ⟨gs, cs, rfl, hg1, hg2, hgc⟩ := own_form hS hp0
  have HIM : Hid (∀ q k, q < m.s → imgN m n q k < P) := fun q k hq => by rw [hP]; exact imgN_lt hok hwf hq n k
  have HP := Lib.hid hP
  have HC := Lib.hid hgc
  have hmk := mk_bb P (by omega) w3
  have hM0 := (Mm.start w3).alloc (madeCells #[.slice none 0 0] P) 57
  rw [made_bb (fun _ => 0)] at hM0
  obtain ⟨bo, hbo⟩ : ∃ bo, bo = w3.heap.size := ⟨_, rfl⟩
  rw [← hbo] at hM0
  have HBO := Lib.hid hbo
  have hbw3 : b < w3.heap.size := World.block_lt_of_cell? w3 ⟨b, 0, none⟩ hm3.l
  clear hR hT hm1 hm2 hBt hcl hS hgc hP hbo hm
  go_wp2_with fail
  rw [← HBO.out]
  clear hmk
  go_loopw [29] (fun i wr => ∃ (k : Nat) (g : Nat → Nat), k ≤ P ∧ i = .int .i64 k ∧ Mm bo w3 wr ((bo, hds g P k, 57) :: rowsB g P k (fun _ _ => false)) []) (fun i _ => P - (intOf i).toNat)
  case atStart => exact ⟨0, fun _ => 0, Nat.zero_le _, rfl, by simpa [rowsB] using hM0⟩
  case round =>
    clear hM0
    obtain ⟨k, g, hk, rfl, hM⟩ := hrel
    by_cases hlt : k < P
    · have hmk := mk_bool P (by omega) wr
      have hM1 := hM.alloc (madeCells #[.bool false] P) 4
      rw [made_bool] at hM1
      have c1 := (hM1.at 1 rfl).cell' (hds_get (g := g) (k := k) hlt)
      have f1 := (hM1.at 1 rfl).free k
      rw [if_neg (by omega)] at c1
      have hM2 := hM1.setCell 1 rfl k (.slice (some ⟨wr.heap.size, 0, none⟩) P P)
      simp only [List.set_cons_zero, List.set_cons_succ] at hM2
      rw [hds_set g _ hlt] at hM2
      have hM3 := hM2.permL (L' := (bo, hds (fun i => if i = k then wr.heap.size else g i) P (k + 1), 57) :: rowsB (fun i => if i = k then wr.heap.size else g i) P (k + 1) (fun _ _ => false)) (by
        rw [rowsB_succ]
        exact (List.perm_append_singleton _ ((bo, hds (fun i => if i = k then wr.heap.size else g i) P (k + 1), 57) :: rowsB g P k (fun _ _ => false))).symm)
      have HM3 := Lib.hid hM3
      have i1 : (0 : Int) ≤ (k : Int) := by omega
      have i2 : (k : Int) < (P : Int) := by omega
      clear hM hM1 hM2 hM3
      go_wp2_with fail
      go_roundw
      case rel => exact ⟨k + 1, _, by omega, by go_num, HM3.out⟩
      case measure => simp [intOf] <;> omega
    · have hk' : k = P := by omega
      subst hk'
      have HMK : Hid (∀ W, Mm bo w3 W ((bo, hds g k k, 57) :: rowsB g k k (fun _ _ => false)) [] → True) := fun _ _ => trivial
      go_wp2_with fail
      go_loopw [41] (fun i wr => ∃ x : Nat, x ≤ k ∧ i = .int .i64 x ∧ Mm bo w3 wr ((bo, hds g k k, 57) :: rowsB g k k (tileK m n x)) []) (fun i _ => k - (intOf i).toNat)
      case atStart => exact ⟨0, Nat.zero_le _, rfl, hM⟩
      case round =>
        clear hM
        obtain ⟨x, hx, rfl, hM⟩ := hrel
        by_cases hxlt : x < k
        · have hbb : Below w3.heap.size w3 wr := by rw [← HBO.out]; exact hM.below
          have hmr := hm3.below hbb hbw3
          have hcs : wr.cell? ⟨b, 1, none⟩ = some (.int .i64 (m.s : Int)) := by rw [← hok.S_eq]; exact hmr.s
          have hc := HC.out x _ (strs_get hxlt)
          rw [← hbb.cell (p := ⟨gs, x, none⟩) hg1] at hc
          have i1 : (0 : Int) ≤ (x : Int) := by omega
          have i2 : (x : Int) < (k : Int) := by omega
          go_wp2_with fail
          clear hc hcs hmr hbb
          go_loopw [50] (fun i wi => ∃ q : Nat, q ≤ m.s ∧ i = .int .i64 q ∧ Mm bo w3 wi ((bo, hds g k k, 57) :: rowsB g k k (tileQ m n x (tileK m n x) q)) []) (fun i _ => m.s - (intOf i).toNat)
          case atStart => exact ⟨0, Nat.zero_le _, rfl, hM⟩
          case round =>
            clear hM
            obtain ⟨q, hq, rfl, hM⟩ := hrel
            by_cases hqlt : q < m.s
            · have hbb : Below w3.heap.size w3 wr := by rw [← HBO.out]; exact hM.below
              have hmr := hm3.below hbb hbw3
              have HWS : Hid (∀ q, (runL m q (digs m.l n x)).2 = wsec m n q x) := fun q => rfl
              have HWI : Hid (∀ q, (runL m q (digs m.l n x)).1 = wimg m n q x) := fun q => rfl
              go_wp2_with fail
              refine (lead_any b 0 m hwf hok q hqlt _ (word_lets hok n x) (by rw [txt_size, digs_length]; omega) _ hmr).mono ?_
              rintro e w5 ⟨rfl, hb5⟩
              rw [word_lts hok, HWS.out, HWI.out]
              have hM5 := hM.call hb5
              have hbb5 : Below w3.heap.size w3 w5 := by rw [← HBO.out]; exact hM5.below
              have hcl : w5.cell? ⟨b, 0, none⟩ = some (.int .i64 (m.l : Int)) := by rw [← hok.L_eq]; exact (hm3.below hbb5 hbw3).l
              have hl : letsP m.l (txt (wimg m n q x)) = true := img_lets hok hwf hqlt n x
              have hts : (txt (wimg m n q x)).size ≤ 28 := by rw [txt_size, wimg_length]; omega
              have HLT : Hid (numL m.l (lts (txt (wimg m n q x))) = imgN m n q x) := by show _ = _; rw [img_lts hok hwf hqlt]; rfl
              clear hM hmr
              go_wp2_with fail
              refine (numberOf_any m.l hl3 _ hl hts _).mono ?_
              rintro e w' ⟨rfl, rfl⟩
              rw [HLT.out]
              have hr := wsec_lt hok hwf hqlt n x
              have hbt := (hB3.keep hbb5).cell' (bvs_get (trivB m) hr)
              have hil := HIM.out q x hqlt
              have HTB : Hid (tileB m n q x = (trivB m (wsec m n q x) && imgN m n q x != x)) := rfl
              have HTQ : Hid (tileQ m n x (tileK m n x) (q + 1) = if tileB m n q x then upd1 (upd1 (tileQ m n x (tileK m n x) q) x (imgN m n q x)) (imgN m n q x) x else tileQ m n x (tileK m n x) q) := rfl
              generalize tileQ m n x (tileK m n x) q = M at *
              generalize txt (wimg m n q x) = t1 at *
              generalize wsec m n q x = r at *
              generalize imgN m n q x = y at *
              have j1 : (0 : Int) ≤ (r : Int) := by omega
              have j2 : (r : Int) < (m.s : Int) := by omega
              have j3 : (0 : Int) ≤ (y : Int) := by omega
              have j4 : (y : Int) < (k : Int) := by omega
              clear hl hts hcl
              cases ht : trivB m r
              · rw [ht] at hbt HTB
                simp only [Bool.false_and] at HTB
                rw [HTB.out] at HTQ
                simp only [Bool.false_eq_true, if_false] at HTQ
                clear ht
                go_wp2_with fail
                go_roundw
                case rel => exact ⟨q + 1, by omega, by go_num, by rw [HTQ.out]; exact hM5⟩
                case measure => simp [intOf] <;> omega
              · rw [ht] at hbt HTB
                clear ht
                by_cases e : y = x
                · have HT2 : Hid (tileB m n q x = false) := by show _ = _; rw [HTB.out, e]; simp
                  rw [HT2.out] at HTQ
                  simp only [Bool.false_eq_true, if_false] at HTQ
                  have e' : ((x : Int) != (y : Int)) = false := by simp; omega
                  clear e
                  go_wp2_with fail
                  go_roundw
                  case rel => exact ⟨q + 1, by omega, by go_num, by rw [HTQ.out]; exact hM5⟩
                  case measure => simp [intOf] <;> omega
                · have HT2 : Hid (tileB m n q x = true) := by show _ = _; rw [HTB.out]; simp [e]
                  rw [HT2.out] at HTQ
                  simp only [if_true] at HTQ
                  have e' : ((x : Int) != (y : Int)) = true := by simp; omega
                  have HE := Lib.hid e
                  clear e
                  have hmx : Try.prog.follows .mixedOrders = true := by kernel_rfl
                  have HMX := Lib.hid hmx
                  have HS : Hid (∀ W M', Mm bo w3 W ((bo, hds g k k, 57) :: rowsB g k k M') [] → (W.cell? ⟨bo, x, none⟩ = some (.slice (some ⟨g x, 0, none⟩) k k) ∧ W.cell? ⟨bo, y, none⟩ = some (.slice (some ⟨g y, 0, none⟩) k k))) := fun W M' h =>
                    ⟨by rw [(h.at 0 rfl).cell' (hds_get hxlt), if_pos hxlt], by rw [(h.at 0 rfl).cell' (hds_get hil), if_pos hil]⟩
                  have HST : Hid (∀ W M' a b, a < k → b < k → Mm bo w3 W ((bo, hds g k k, 57) :: rowsB g k k M') [] → ((∃ v, W.cell? ⟨g a, b, none⟩ = some (.bool v)) ∧ W.frozen? ⟨g a, b, none⟩ = false ∧ Mm bo w3 (W.setCell ⟨g a, b, none⟩ (.bool true)) ((bo, hds g k k, 57) :: rowsB g k k (upd1 M' a b)) [])) := fun W M' a b ha hb h => by
                    have hr : ((bo, hds g k k, 57) :: rowsB g k k M')[a + 1]? = some (g a, bvs k (M' a), 4) := by rw [List.getElem?_cons_succ]; exact rowsB_get _ ha
                    refine ⟨⟨_, (h.at (a + 1) hr).cell' (bvs_get _ hb)⟩, (h.at (a + 1) hr).free b, ?_⟩
                    have h2 := h.setCell (a + 1) hr b (.bool true)
                    rw [List.set_cons_succ, rowsB_set g k k M' ha hb] at h2
                    exact h2
                  have hMd := hM5.drew
                  clear hmx hM5
                  go_wp2_with fail
                  refine region_S (fun W => W.cell? ⟨bo, x, none⟩ = some (.slice (some ⟨g x, 0, none⟩) k k) ∧ W.cell? ⟨bo, y, none⟩ = some (.slice (some ⟨g y, 0, none⟩) k k)) [] 14 rfl HMX.out (HS.out _ _ hMd) (fun hU => ?_)
                  obtain ⟨W, hW⟩ : ∃ W, W = w5.drew := ⟨_, rfl⟩
                  rw [← hW] at hU hMd ⊢
                  clear hW
                  (refine AnyS.take (i := 0) rfl (by kernel_rfl) (by kernel_rfl) (by kernel_rfl) (by rfl) (fun _ _ _ h => h) (by rfl) (by intro w; go_simp; with_reducible rfl) hU (fun hU => ?_); (try simp only [Act.put, List.setIfInBounds_toArray, List.set_cons_zero, List.set_cons_succ]); refine AnyS.take (i := 1) rfl (by kernel_rfl) (by kernel_rfl) (by kernel_rfl) (by rfl) (fun _ _ _ h => h) (by rfl) (by intro w; go_simp; with_reducible rfl) hU (fun hU => ?_); (try simp only [Act.put, List.setIfInBounds_toArray, List.set_cons_zero, List.set_cons_succ]); refine AnyS.take (i := 2) rfl (by kernel_rfl) (by kernel_rfl) (by kernel_rfl) (by rfl) (fun _ _ _ h => h) (by rfl) (by intro w; go_simp; with_reducible rfl) hU (fun hU => ?_); (try simp only [Act.put, List.setIfInBounds_toArray, List.set_cons_zero, List.set_cons_succ]))
                  (refine AnyS.takeS (i := 3) rfl (by kernel_rfl) (by kernel_rfl) (by kernel_rfl) (by rfl) (by kernel_rfl) (by kernel_rfl) (fun _ _ _ h => h) (by rfl) (by intro W hSw; have h1 := hSw.1; clear hSw; go_simp; with_reducible rfl) hU (fun hU => ?_); (try simp only [Act.put, List.setIfInBounds_toArray, List.set_cons_zero, List.set_cons_succ]))
                  (refine AnyS.take (i := 4) rfl (by kernel_rfl) (by kernel_rfl) (by kernel_rfl) (by rfl) (fun _ _ _ h => h) (by rfl) (by intro w; go_simp; with_reducible rfl) hU (fun hU => ?_); (try simp only [Act.put, List.setIfInBounds_toArray, List.set_cons_zero, List.set_cons_succ]); refine AnyS.take (i := 5) rfl (by kernel_rfl) (by kernel_rfl) (by kernel_rfl) (by rfl) (fun _ _ _ h => h) (by rfl) (by intro w; go_simp; with_reducible rfl) hU (fun hU => ?_); (try simp only [Act.put, List.setIfInBounds_toArray, List.set_cons_zero, List.set_cons_succ]); refine AnyS.take (i := 6) rfl (by kernel_rfl) (by kernel_rfl) (by kernel_rfl) (by rfl) (fun _ _ _ h => h) (by rfl) (by intro w; go_simp; with_reducible rfl) hU (fun hU => ?_); (try simp only [Act.put, List.setIfInBounds_toArray, List.set_cons_zero, List.set_cons_succ]); refine AnyS.take (i := 7) rfl (by kernel_rfl) (by kernel_rfl) (by kernel_rfl) (by rfl) (fun _ _ _ h => h) (by rfl) (by intro w; go_simp; with_reducible rfl) hU (fun hU => ?_); (try simp only [Act.put, List.setIfInBounds_toArray, List.set_cons_zero, List.set_cons_succ]))
                  (refine AnyS.takeS (i := 8) rfl (by kernel_rfl) (by kernel_rfl) (by kernel_rfl) (by rfl) (by kernel_rfl) (by kernel_rfl) (fun _ _ _ h => h) (by rfl) (by intro W hSw; have h1 := hSw.2; clear hSw; go_simp; with_reducible rfl) hU (fun hU => ?_); (try simp only [Act.put, List.setIfInBounds_toArray, List.set_cons_zero, List.set_cons_succ]))
                  (refine AnyS.take (i := 9) rfl (by kernel_rfl) (by kernel_rfl) (by kernel_rfl) (by rfl) (fun _ _ _ h => h) (by rfl) (by intro w; go_simp; with_reducible rfl) hU (fun hU => ?_); (try simp only [Act.put, List.setIfInBounds_toArray, List.set_cons_zero, List.set_cons_succ]); refine AnyS.take (i := 10) rfl (by kernel_rfl) (by kernel_rfl) (by kernel_rfl) (by rfl) (fun _ _ _ h => h) (by rfl) (by intro w; go_simp; with_reducible rfl) hU (fun hU => ?_); (try simp only [Act.put, List.setIfInBounds_toArray, List.set_cons_zero, List.set_cons_succ]))
                  refine AnyS.branch (rs := [11]) (by kernel_rfl) (by simp) (AllS.cons rfl (fun K hK => ?_) AllS.nil)
                  obtain ⟨⟨v1, d1⟩, d2, d3⟩ := HST.out W M x y hxlt hil hMd
                  go_simp
                  refine hK.out _ _ (.inl (HS.out _ _ d3)) (fun hU => ?_)
                  clear hK K d1 d2 hMd
                  (try simp only [Act.put, List.setIfInBounds_toArray, List.set_cons_zero, List.set_cons_succ])
                  (refine AnyS.take (i := 12) rfl (by kernel_rfl) (by kernel_rfl) (by kernel_rfl) (by rfl) (fun _ _ _ h => h) (by rfl) (by intro w; go_simp; with_reducible rfl) hU (fun hU => ?_); (try simp only [Act.put, List.setIfInBounds_toArray, List.set_cons_zero, List.set_cons_succ]))
                  refine AnyS.branch (rs := [13]) (by kernel_rfl) (by simp) (AllS.cons rfl (fun K hK => ?_) AllS.nil)
                  obtain ⟨⟨v2, d4⟩, d5, d6⟩ := HST.out _ _ y x hil hxlt d3
                  go_simp
                  refine hK.out _ _ (.inl (HS.out _ _ d6)) (fun hU => ?_)
                  clear hK K d4 d5 d3
                  (try simp only [Act.put, List.setIfInBounds_toArray, List.set_cons_zero, List.set_cons_succ])
                  refine AnyS.done (by kernel_rfl) ?_ _
                  rw [← HTQ.out] at d6
                  have HD6 := Lib.hid d6
                  clear d6 hU
                  go_wp2_with fail
                  go_roundw
                  case rel => exact ⟨q + 1, by omega, by go_num, HD6.out⟩
                  case measure => simp [intOf] <;> omega
            · have hq' : q = m.s := by omega
              subst hq'
              go_wp2_with fail
              go_roundw
              case rel => exact ⟨x + 1, by omega, by go_num, hM⟩
              case measure => simp [intOf] <;> omega
        · have hx' : x = k := by omega
          subst hx'
          have hend : Below w.heap.size w wr := hbb3.trans (by have := hM.below; rw [HBO.out] at this; exact this.mono hbb3.size)
          have HBM : Hid (BoolM wr (.slice (some ⟨bo, 0, none⟩) x x) x (tileK m n x)) := ⟨bo, x, rfl, fun k hk => ⟨g k, x, by rw [(hM.at 0 rfl).cell' (hds_get hk), if_pos hk], fun l hl => (hM.at (k + 1) (by rw [List.getElem?_cons_succ]; exact rowsB_get _ hk)).cell' (bvs_get _ hl)⟩⟩
          clear hM
          go_wp2_with fail
          go_ret
          exact ⟨_, rfl, hend, by rw [← HP.out]; exact HBM.out⟩
end Go.Proofs.Ythgkkaifdlkciaa
