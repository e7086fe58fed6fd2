import Derived.Test.YteagecoiijhflaaYBall06
import Derived.Test.YteagecoiijhflaaYBall01
import Derived.Test.YteagecoiijhflaaYBall02
import Derived.Test.YteagecoiijhflaaYBall05
import Derived.Test.YteagecoiijhflaaYBall03
import Derived.Deep.LoopGhost
/- Equal states of the reference: l01Same, l01Classes. -/
namespace Go.Proofs.Yteagecoiijhflaa
open Go.RowKit
set_option linter.unusedVariables false
set_option linter.unusedSimpArgs false

theorem nvs_len (n : Nat) (f : Nat → Nat) : (nvs n f).length = n := by simp [nvs]
theorem nvs_one (n : Nat) (f : Nat → Nat) : ∀ v ∈ nvs n f, v.oneCell' = true := fun v hv => by simp only [nvs, List.mem_map] at hv; obtain ⟨z, _, rfl⟩ := hv; rfl
theorem nvs16_info (f : Nat → Nat) : (Try.prog.info? 64).map (·.size) = some (nvs 16 f).length := by rw [nvs_len]; kernel_rfl
theorem nvs_congr {n : Nat} {f g : Nat → Nat} (h : ∀ q, q < n → f q = g q) : nvs n f = nvs n g := by
  simp only [nvs]
  exact List.map_congr_left fun q hq => by rw [h q (by simpa using hq)]

def sameB (m : Mch) (c : Nat → Nat) (q r : Nat) : Bool := (List.range m.l).all fun x => m.on q x == m.on r x && c (m.nn q x) == c (m.nn r x)
theorem sameB_false {m : Mch} {c : Nat → Nat} {q r x : Nat} (hx : x < m.l) (h : (m.on q x == m.on r x && c (m.nn q x) == c (m.nn r x)) = false) : sameB m c q r = false := by
  rw [sameB, List.all_eq_false]; exact ⟨x, by simpa using hx, by simp [h]⟩
theorem allUpto_succ (f : Nat → Bool) (k : Nat) : (List.range (k + 1)).all f = ((List.range k).all f && f k) := by simp [List.range_succ]

set_option maxRecDepth 100000 in
set_option maxHeartbeats 1000000 in
theorem l01Same_any (m : Mch) (hwf : m.Wf) (hok : m.Ok) (c : Nat → Nat) (q r : Nat) (hq : q < m.s) (hr : r < m.s) (w : World) :
    Calls Try.prog 124 #[.agg m.cells.toArray, .agg (nvs 16 c).toArray, .int .i64 q, .int .i64 r] w (Ret (.bool (sameB m c q r)) w) := by
  have hM0 := ((Mm.start w).alloc m.cells.toArray 29).alloc (nvs 16 c).toArray 64
  rw [show (w.alloc (.cells m.cells.toArray 29)).heap.size = w.heap.size + 1 by simp, List.toList_toArray, List.toList_toArray] at hM0
  have hs16 := hok.s_le
  have hl3 := hok.l_le
  go_enter Try.func124, Try.ntmps124
  go_wp2_with fail
  go_loopw [9] (fun i wr => ∃ x : Nat, x ≤ m.l ∧ i = .int .i64 x ∧ Mm w.heap.size w wr [(w.heap.size + 1, nvs 16 c, 64), (w.heap.size, m.cells, 29)] [] ∧ Hid ((List.range x).all (fun x => m.on q x == m.on r x && c (m.nn q x) == c (m.nn r x)) = true)) (fun i _ => m.l - (intOf i).toNat)
  case atStart => exact ⟨0, Nat.zero_le _, rfl, hM0, rfl⟩
  case round =>
    clear hM0
    obtain ⟨x, hx, rfl, hM, HA⟩ := hrel
    have hm := hM.mach 1 rfl
    have hcl : wr.cell? ⟨w.heap.size, 0, none⟩ = some (.int .i64 (m.l : Int)) := by rw [← hok.L_eq]; exact hm.l
    by_cases hxlt : x < m.l
    · have a1 := hm.oo hwf (q := q) (x := x) (by omega) (by omega)
      have a2 := hm.oo hwf (q := r) (x := x) (by omega) (by omega)
      have b1 := hm.nn hwf (q := q) (x := x) (by omega) (by omega)
      have b2 := hm.nn hwf (q := r) (x := x) (by omega) (by omega)
      rw [hok.o_eq hwf hq hxlt] at a1
      rw [hok.o_eq hwf hr hxlt] at a2
      rw [hok.n_eq hwf hq hxlt] at b1
      rw [hok.n_eq hwf hr hxlt] at b2
      have n1 := hok.nn_lt hwf hq hxlt
      have n2 := hok.nn_lt hwf hr hxlt
      have hB := hM.at 0 rfl
      have c1 := hB.cell' (nvs_get c (q := m.nn q x) (by omega))
      have c2 := hB.cell' (nvs_get c (q := m.nn r x) (by omega))
      have HF : Hid ((m.on q x == m.on r x && c (m.nn q x) == c (m.nn r x)) = false → sameB m c q r = false) := fun h => sameB_false hxlt h
      have HN := Lib.hid (allUpto_succ (fun x => m.on q x == m.on r x && c (m.nn q x) == c (m.nn r x)) x)
      rw [HA.out] at HN
      have i1 : (0 : Int) ≤ (x : Int) := by omega
      have i2 : (x : Int) < 3 := by omega
      have i3 : (q : Int) < 16 := by omega
      have i4 : (r : Int) < 16 := by omega
      have i5 : (0 : Int) ≤ (q : Int) := by omega
      have i6 : (0 : Int) ≤ (r : Int) := by omega
      clear hm hB
      generalize m.on q x = y1 at *
      generalize m.on r x = y2 at *
      generalize m.nn q x = z1 at *
      generalize m.nn r x = z2 at *
      generalize c z1 = k1 at *
      generalize c z2 = k2 at *
      have i7 : (z1 : Int) < 16 := by omega
      have i8 : (z2 : Int) < 16 := by omega
      by_cases e1 : y1 = y2
      · subst e1
        by_cases e2 : k1 = k2
        · subst e2
          have HT : Hid ((List.range (x + 1)).all (fun x => m.on q x == m.on r x && c (m.nn q x) == c (m.nn r x)) = true) := by show _ = _; rw [HN.out]; simp
          go_wp2_with fail
          go_quiet (fail)
          go_wp2_with fail
          go_roundw
          case rel => exact ⟨x + 1, by omega, by go_num, hM.drewN _, HT⟩
          case measure => simp [intOf] <;> omega
        · have HR := Lib.hid (HF.out (by simp [e2]))
          have e2' : ((k1 : Int) != (k2 : Int)) = true := by simp; omega
          clear e2
          go_wp2_with fail
          go_quiet (fail)
          go_wp2_with fail
          go_ret
          exact ⟨ret_bool HR.out.symm, (hM.drewN _).below⟩
      · have HR := Lib.hid (HF.out (by simp [e1]))
        have e1' : ((y1 : Int) != (y2 : Int)) = true := by simp; omega
        clear e1
        go_wp2_with fail
        go_quiet (fail)
        go_wp2_with fail
        go_ret
        exact ⟨ret_bool HR.out.symm, (hM.drewN _).below⟩
    · have hx' : x = m.l := by omega
      subst hx'
      have hbl := hM.below
      clear hm hM
      go_wp2_with fail
      go_ret
      exact ⟨ret_bool HA.out.symm, hbl⟩

/-! the classes -/
theorem sameB_eqv {m : Mch} {k q r : Nat} (hq : q < m.s) (hr : r < m.s) (hok : m.Ok) (hwf : m.Wf) {c : Nat → Nat} (hc : ∀ q, q < m.s → c q = m.tbl.cls k q) : sameB m c q r = true ↔ m.tbl.eqv (k + 1) q r = true := by
  rw [Tbl.eqv_succ]
  simp only [sameB, List.all_eq_true, List.mem_range, Bool.and_eq_true, beq_iff_eq]
  constructor
  · intro h x hx
    have := h x hx
    rw [hc _ (hok.nn_lt hwf hq hx), hc _ (hok.nn_lt hwf hr hx)] at this
    exact ⟨this.1, (m.tbl.cls_iff k _ _).2 this.2⟩
  · intro h x hx
    have := h x hx
    rw [hc _ (hok.nn_lt hwf hq hx), hc _ (hok.nn_lt hwf hr hx)]
    exact ⟨this.1, (m.tbl.cls_iff k _ _).1 this.2⟩
def cV (m : Mch) (k q : Nat) : Nat := if q < m.s then m.tbl.cls k q else 0
theorem cV_lt {m : Mch} {k q : Nat} (h : q < m.s) : cV m k q = m.tbl.cls k q := if_pos h
/-- the classes of the first j states of the next round -/
def nV (m : Mch) (k j q : Nat) : Nat := if q < j then m.tbl.cls (k + 1) q else 0
theorem nV_upd (m : Mch) (k j v : Nat) (h : m.tbl.cls (k + 1) j = v) : updN (nV m k j) j v = nV m k (j + 1) := by
  funext q
  simp only [updN, nV]
  by_cases e : q = j
  · subst e; rw [if_pos rfl, if_pos (by omega), h]
  · rw [if_neg e]
    by_cases h1 : q < j
    · rw [if_pos h1, if_pos (by omega)]
    · rw [if_neg h1, if_neg (by omega)]
theorem upd_upd (f : Nat → Nat) (j v u : Nat) : updN (updN f j v) j u = updN f j u := by funext q; simp only [updN]; split <;> rfl
theorem nV_all (m : Mch) (k : Nat) : nV m k m.s = cV m (k + 1) := by funext q; rfl
/-- is r taken for q? -/
def okR (m : Mch) (k q r : Nat) : Bool := cV m k q == cV m k r && sameB m (cV m k) q r
theorem okR_eqv {m : Mch} (hok : m.Ok) (hwf : m.Wf) {k q r : Nat} (hq : q < m.s) (hr : r < m.s) : okR m k q r = m.tbl.eqv (k + 1) q r := by
  rw [Bool.eq_iff_iff, okR, Bool.and_eq_true, beq_iff_eq, sameB_eqv hq hr hok hwf (fun q h => cV_lt h), cV_lt hq, cV_lt hr]
  exact ⟨fun h => h.2, fun h => ⟨(m.tbl.cls_iff k q r).1 (m.tbl.eqv_mono k q r h), h⟩⟩
theorem cls_found {m : Mch} (hok : m.Ok) (hwf : m.Wf) {k q r : Nat} (hq : q < m.s) (hr : r < q) (h : okR m k q r = true) (hmin : ∀ s, s < r → okR m k q s = false) : m.tbl.cls (k + 1) q = r := by
  refine lst_eq (by omega) (fun _ => ?_) (fun s hs => ?_)
  · rw [← okR_eqv hok hwf hq (by omega)]; exact h
  · rw [← okR_eqv hok hwf hq (by omega)]; exact hmin s hs
theorem cls_none {m : Mch} (hok : m.Ok) (hwf : m.Wf) {k q : Nat} (hq : q < m.s) (hmin : ∀ s, s < q → okR m k q s = false) : m.tbl.cls (k + 1) q = q := by
  refine lst_eq (by omega) (fun h => by omega) (fun s hs => ?_)
  rw [← okR_eqv hok hwf hq (by omega)]; exact hmin s hs
theorem cls_fix {m : Mch} (hok : m.Ok) (hwf : m.Wf) {k q r : Nat} (hq : q < m.s) (hr : r < q) (h : okR m k q r = true) (hmin : ∀ s, s < r → okR m k q s = false) : m.tbl.cls (k + 1) r = r := by
  have := cls_found hok hwf hq hr h hmin
  rw [← this]; exact m.tbl.cls_cls _ _

theorem zer16 : (#[.int .i64 0, .int .i64 0, .int .i64 0, .int .i64 0, .int .i64 0, .int .i64 0, .int .i64 0, .int .i64 0, .int .i64 0, .int .i64 0, .int .i64 0, .int .i64 0, .int .i64 0, .int .i64 0, .int .i64 0, .int .i64 0] : Array Value).toList = nvs 16 fun _ => 0 := rfl

set_option maxRecDepth 100000 in
set_option maxHeartbeats 4000000 in
theorem l01Classes_any (m : Mch) (hwf : m.Wf) (hok : m.Ok) (w : World) :
    Calls Try.prog 89 #[.agg m.cells.toArray] w (Ret (.agg (nvs 16 (fun q => if q < m.s then m.tbl.fin q else 0)).toArray) w) := by
  have hs16 := hok.s_le
  have hl3 := hok.l_le
  obtain ⟨Z, hZ⟩ : ∃ Z : Array Value, Z = #[.int .i64 0, .int .i64 0, .int .i64 0, .int .i64 0, .int .i64 0, .int .i64 0, .int .i64 0, .int .i64 0, .int .i64 0, .int .i64 0, .int .i64 0, .int .i64 0, .int .i64 0, .int .i64 0, .int .i64 0, .int .i64 0] := ⟨_, rfl⟩
  have hM0 := (((Mm.start w).alloc m.cells.toArray 29).alloc Z 64).alloc Z 64
  rw [show ((w.alloc (.cells m.cells.toArray 29)).alloc (.cells Z 64)).heap.size = w.heap.size + 1 + 1 by simp, show (w.alloc (.cells m.cells.toArray 29)).heap.size = w.heap.size + 1 by simp, List.toList_toArray] at hM0
  rw [hZ, zer16, show (nvs 16 fun _ => 0) = nvs 16 (cV m 0) from nvs_congr fun q _ => by simp only [cV]; rw [Tbl.cls_zero]; split <;> rfl] at hM0
  clear hZ
  go_enter Try.func89, Try.ntmps89
  go_wp2_with fail
  go_loopw [4] (fun i wr => ∃ k : Nat, k ≤ m.s + 1 ∧ i = .int .i64 k ∧ Mm w.heap.size w wr [(w.heap.size + 1 + 1, nvs 16 (cV m k), 64), (w.heap.size + 1, nvs 16 (cV m 0), 64), (w.heap.size, m.cells, 29)] []) (fun i _ => m.s + 1 - (intOf i).toNat)
  case atStart => exact ⟨0, Nat.zero_le _, rfl, hM0⟩
  case round =>
    clear hM0
    obtain ⟨k, hk, rfl, hM⟩ := hrel
    have hcs : wr.cell? ⟨w.heap.size, 1, none⟩ = some (.int .i64 (m.s : Int)) := by rw [← hok.S_eq]; exact (hM.mach 2 rfl).s
    by_cases hklt : k ≤ m.s
    · obtain ⟨wo, rfl⟩ : ∃ wo : World, wo = wr := ⟨_, rfl⟩
      have hX := hM.alloc #[.int .i64 0, .int .i64 0, .int .i64 0, .int .i64 0, .int .i64 0, .int .i64 0, .int .i64 0, .int .i64 0, .int .i64 0, .int .i64 0, .int .i64 0, .int .i64 0, .int .i64 0, .int .i64 0, .int .i64 0, .int .i64 0] 64
      rw [zer16, show (nvs 16 fun _ => 0) = nvs 16 (nV m k 0) from nvs_congr fun q _ => by simp [nV]] at hX
      obtain ⟨E, hE⟩ : ∃ E, E = wo.heap.size := ⟨_, rfl⟩
      rw [← hE] at hX
      clear hM
      go_wp2_with fail
      rw [← hE]
      go_loopw [6] (fun i wi => ∃ q : Nat, q ≤ m.s ∧ i = .int .i64 q ∧ Mm w.heap.size w wi [(E, nvs 16 (nV m k q), 64), (w.heap.size + 1 + 1, nvs 16 (cV m k), 64), (w.heap.size + 1, nvs 16 (cV m 0), 64), (w.heap.size, m.cells, 29)] []) (fun i _ => m.s - (intOf i).toNat)
      case atStart => exact ⟨0, Nat.zero_le _, rfl, hX⟩
      case round =>
        clear hX hcs hE
        obtain ⟨q, hq, rfl, hM⟩ := hrel
        have hcs : wr.cell? ⟨w.heap.size, 1, none⟩ = some (.int .i64 (m.s : Int)) := by rw [← hok.S_eq]; exact (hM.mach 3 rfl).s
        by_cases hqlt : q < m.s
        · have c1 := (hM.at 0 rfl).cell' (nvs_get (nV m k q) (q := q) (by omega))
          have f1 := (hM.at 0 rfl).free q
          have hM1 := hM.setCell 0 rfl q (.int .i64 (q : Int))
          simp only [List.set_cons_zero] at hM1
          rw [nvs_set _ _ (by omega)] at hM1
          have HM1 := Lib.hid hM1
          clear hM hM1
          generalize nV m k q q = old at *
          have i1 : (q : Int) < 16 := by omega
          have i2 : (0 : Int) ≤ (q : Int) := by omega
          go_wp2_with fail
          clear c1 f1
          go_loopw [7] (fun i wi => ∃ r : Nat, r ≤ q ∧ i = .int .i64 r ∧ Mm w.heap.size w wi [(E, nvs 16 (updN (nV m k q) q q), 64), (w.heap.size + 1 + 1, nvs 16 (cV m k), 64), (w.heap.size + 1, nvs 16 (cV m 0), 64), (w.heap.size, m.cells, 29)] [] ∧ Hid (∀ s, s < r → okR m k q s = false)) (fun i _ => q - (intOf i).toNat)
          case atStart => exact ⟨0, Nat.zero_le _, rfl, HM1.out, fun s hs => by omega⟩
          case round =>
            clear HM1 hcs
            obtain ⟨r, hr, rfl, hM, HN⟩ := hrel
            by_cases hrlt : r < q
            · have c1 := (hM.at 1 rfl).cell' (nvs_get (cV m k) (q := q) (by omega))
              have c2 := (hM.at 1 rfl).cell' (nvs_get (cV m k) (q := r) (by omega))
              have i3 : (r : Int) < 16 := by omega
              have i4 : (0 : Int) ≤ (r : Int) := by omega
              have i5 : (r : Int) < (q : Int) := by omega
              have HOK : Hid (okR m k q r = (cV m k q == cV m k r && sameB m (cV m k) q r)) := rfl
              have HNX : Hid (okR m k q r = false → ∀ s, s < r + 1 → okR m k q s = false) := fun h s hs => by
                by_cases e : s = r
                · subst e; exact h
                · exact HN.out s (by omega)
              obtain ⟨a, ha⟩ : ∃ a, a = cV m k q := ⟨_, rfl⟩
              obtain ⟨b, hb⟩ : ∃ b, b = cV m k r := ⟨_, rfl⟩
              rw [← ha] at c1
              rw [← hb] at c2
              rw [← ha, ← hb] at HOK
              by_cases e : a = b
              · have HSM : Hid (∀ W, Calls Try.prog 124 #[.agg m.cells.toArray, .agg (nvs 16 (cV m k)).toArray, .int .i64 q, .int .i64 r] W (Ret (.bool (sameB m (cV m k) q r)) W)) := fun W => l01Same_any m hwf hok (cV m k) q r hqlt (by omega) W
                have HIM := Lib.hid (mach_info hwf)
                have HIC := Lib.hid (nvs16_info (cV m k))
                have hmx : Try.prog.follows .mixedOrders = true := by kernel_rfl
                have HMX := Lib.hid hmx
                have HS : Hid (∀ W, Below wr.heap.size wr W → (W.rangeAt w.heap.size 0 m.cells ∧ W.rangeAt (w.heap.size + 1 + 1) 0 (nvs 16 (cV m k)) ∧ W.cell? ⟨w.heap.size + 1 + 1, q, none⟩ = some (.int .i64 (a : Int)) ∧ W.cell? ⟨w.heap.size + 1 + 1, r, none⟩ = some (.int .i64 (a : Int)))) := fun W hW => by
                  have h := hM.call hW
                  refine ⟨(h.at 3 rfl).all, (h.at 1 rfl).all, ?_, ?_⟩
                  · rw [ha]; exact (h.at 1 rfl).cell' (nvs_get (cV m k) (q := q) (by omega))
                  · rw [e, hb]; exact (h.at 1 rfl).cell' (nvs_get (cV m k) (q := r) (by omega))
                subst e
                clear hmx ha hb c1 c2
                go_wp2_with fail
                refine region_S (fun W => W.rangeAt w.heap.size 0 m.cells ∧ W.rangeAt (w.heap.size + 1 + 1) 0 (nvs 16 (cV m k)) ∧ W.cell? ⟨w.heap.size + 1 + 1, q, none⟩ = some (.int .i64 (a : Int)) ∧ W.cell? ⟨w.heap.size + 1 + 1, r, none⟩ = some (.int .i64 (a : Int))) [] 14 rfl HMX.out (HS.out _ (Below.refl _ wr).drew) (fun hU => ?_)
                obtain ⟨W, hW⟩ : ∃ W, W = wr.drew := ⟨_, rfl⟩
                have hBW : Below wr.heap.size wr W := by rw [hW]; exact (Below.refl _ wr).drew
                rw [← hW] at hU ⊢
                clear hW
                (refine AnyS.take (i := 0) rfl (by kernel_rfl) (by kernel_rfl) (by kernel_rfl) (by rfl) (fun _ _ _ h => h) (by rfl) (by intro w; go_simp; with_reducible rfl) hU (fun hU => ?_); (try simp only [Act.put, List.setIfInBounds_toArray, List.set_cons_zero, List.set_cons_succ]); refine AnyS.take (i := 1) rfl (by kernel_rfl) (by kernel_rfl) (by kernel_rfl) (by rfl) (fun _ _ _ h => h) (by rfl) (by intro w; go_simp; with_reducible rfl) hU (fun hU => ?_); (try simp only [Act.put, List.setIfInBounds_toArray, List.set_cons_zero, List.set_cons_succ]))
                (refine AnyS.takeS (i := 2) rfl (by kernel_rfl) (by kernel_rfl) (by kernel_rfl) (by rfl) (by kernel_rfl) (by kernel_rfl) (fun _ _ _ h => h) (by rfl) (by intro W hSw; have h1 := hSw.2.2.1; clear hSw; go_simp; with_reducible rfl) hU (fun hU => ?_); (try simp only [Act.put, List.setIfInBounds_toArray, List.set_cons_zero, List.set_cons_succ]))
                (refine AnyS.take (i := 3) rfl (by kernel_rfl) (by kernel_rfl) (by kernel_rfl) (by rfl) (fun _ _ _ h => h) (by rfl) (by intro w; go_simp; with_reducible rfl) hU (fun hU => ?_); (try simp only [Act.put, List.setIfInBounds_toArray, List.set_cons_zero, List.set_cons_succ]); refine AnyS.take (i := 4) rfl (by kernel_rfl) (by kernel_rfl) (by kernel_rfl) (by rfl) (fun _ _ _ h => h) (by rfl) (by intro w; go_simp; with_reducible rfl) hU (fun hU => ?_); (try simp only [Act.put, List.setIfInBounds_toArray, List.set_cons_zero, List.set_cons_succ]))
                (refine AnyS.takeS (i := 5) rfl (by kernel_rfl) (by kernel_rfl) (by kernel_rfl) (by rfl) (by kernel_rfl) (by kernel_rfl) (fun _ _ _ h => h) (by rfl) (by intro W hSw; have h1 := hSw.2.2.2; clear hSw; go_simp; with_reducible rfl) hU (fun hU => ?_); (try simp only [Act.put, List.setIfInBounds_toArray, List.set_cons_zero, List.set_cons_succ]))
                (refine AnyS.take (i := 6) rfl (by kernel_rfl) (by kernel_rfl) (by kernel_rfl) (by rfl) (fun _ _ _ h => h) (by rfl) (by intro w; go_simp; with_reducible rfl) hU (fun hU => ?_); (try simp only [Act.put, List.setIfInBounds_toArray, List.set_cons_zero, List.set_cons_succ]); refine AnyS.take (i := 7) rfl (by kernel_rfl) (by kernel_rfl) (by kernel_rfl) (by rfl) (fun _ _ _ h => h) (by rfl) (by intro w; go_simp; with_reducible rfl) hU (fun hU => ?_); (try simp only [Act.put, List.setIfInBounds_toArray, List.set_cons_zero, List.set_cons_succ]))
                (refine AnyS.takeS (i := 8) rfl (by kernel_rfl) (by kernel_rfl) (by kernel_rfl) (by rfl) (by kernel_rfl) (by kernel_rfl) (fun _ _ _ h => h) (by rfl) (fun W hW => run_ld Try.underlying29 rfl HIM.out (.tmp 1) rfl rfl hW.1) hU (fun hU => ?_); (try simp only [Act.put, List.setIfInBounds_toArray, List.set_cons_zero, List.set_cons_succ]))
                (refine AnyS.takeS (i := 9) rfl (by kernel_rfl) (by kernel_rfl) (by kernel_rfl) (by rfl) (by kernel_rfl) (by kernel_rfl) (fun _ _ _ h => h) (by rfl) (fun W hW => run_ld Try.underlying64 rfl HIC.out (.tmp 3) rfl rfl hW.2.1) hU (fun hU => ?_); (try simp only [Act.put, List.setIfInBounds_toArray, List.set_cons_zero, List.set_cons_succ]))
                (refine AnyS.take (i := 10) rfl (by kernel_rfl) (by kernel_rfl) (by kernel_rfl) (by rfl) (fun _ _ _ h => h) (by rfl) (by intro w; go_simp; with_reducible rfl) hU (fun hU => ?_); (try simp only [Act.put, List.setIfInBounds_toArray, List.set_cons_zero, List.set_cons_succ]); refine AnyS.take (i := 11) rfl (by kernel_rfl) (by kernel_rfl) (by kernel_rfl) (by rfl) (fun _ _ _ h => h) (by rfl) (by intro w; go_simp; with_reducible rfl) hU (fun hU => ?_); (try simp only [Act.put, List.setIfInBounds_toArray, List.set_cons_zero, List.set_cons_succ]))
                refine AnyS.branch (rs := [12]) (by kernel_rfl) (by simp) (AllS.cons rfl (fun K hK => ?_) AllS.nil)
                go_simp
                refine (HSM.out _).mono ?_
                rintro e w4 ⟨rfl, hb4⟩
                have hB4 := hBW.trans (hb4.mono hBW.size)
                refine hK.out _ _ (.inl (HS.out _ hB4)) (fun hU => ?_)
                clear hK K hBW
                (try simp only [Act.put, List.setIfInBounds_toArray, List.set_cons_zero, List.set_cons_succ])
                have hM4 := hM.call hB4
                clear hM hb4
                cases hs : sameB m (cV m k) q r
                · (refine AnyS.take (i := 13) rfl (by kernel_rfl) (by kernel_rfl) (by kernel_rfl) (by rfl) (fun _ _ _ h => h) (by rfl) (by intro w; go_simp; with_reducible rfl) hU (fun hU => ?_); (try simp only [Act.put, List.setIfInBounds_toArray, List.set_cons_zero, List.set_cons_succ]))
                  refine AnyS.done (by kernel_rfl) ?_ _
                  have HX := Lib.hid (HNX.out (by rw [HOK.out, hs]; simp))
                  clear hU hB4 hs
                  go_wp2_with fail
                  go_roundw
                  case rel => exact ⟨r + 1, by omega, by go_num, hM4, HX.out⟩
                  case measure => simp [intOf] <;> omega
                · (refine AnyS.take (i := 13) rfl (by kernel_rfl) (by kernel_rfl) (by kernel_rfl) (by rfl) (fun _ _ _ h => h) (by rfl) (by intro w; go_simp; with_reducible rfl) hU (fun hU => ?_); (try simp only [Act.put, List.setIfInBounds_toArray, List.set_cons_zero, List.set_cons_succ]))
                  refine AnyS.done (by kernel_rfl) ?_ _
                  have hokr : okR m k q r = true := by rw [HOK.out, hs]; simp
                  have hcr : updN (nV m k q) q q r = r := by
                    simp only [updN, nV]
                    rw [if_neg (by omega), if_pos hrlt]
                    exact cls_fix hok hwf hqlt hrlt hokr HN.out
                  have c3 := (hM4.at 0 rfl).cell' (nvs_get (updN (nV m k q) q q) (q := r) (by omega))
                  rw [hcr] at c3
                  have c4 := (hM4.at 0 rfl).cell' (nvs_get (updN (nV m k q) q q) (q := q) (by omega))
                  have f4 := (hM4.at 0 rfl).free q
                  have hM5 := hM4.setCell 0 rfl q (.int .i64 (r : Int))
                  simp only [List.set_cons_zero] at hM5
                  rw [nvs_set _ _ (by omega), upd_upd, nV_upd m k q r (cls_found hok hwf hqlt hrlt hokr HN.out)] at hM5
                  have HM5 := Lib.hid hM5
                  clear hU hB4 hs hokr hcr hM4 hM5
                  generalize updN (nV m k q) q q q = old2 at *
                  go_wp2_with fail
                  go_roundw
                  case rel => exact ⟨q + 1, by omega, by go_num, HM5.out⟩
                  case measure => simp [intOf] <;> omega
              · have HX := Lib.hid (HNX.out (by rw [HOK.out]; simp [e]))
                have e' : ((a : Int) == (b : Int)) = false := by simp; omega
                clear ha hb e
                go_wp2_with fail
                go_quiet (fail)
                go_wp2_with fail
                go_roundw
                case rel => exact ⟨r + 1, by omega, by go_num, hM.drewN _, HX.out⟩
                case measure => simp [intOf] <;> omega
            · have hr' : r = q := by omega
              subst hr'
              rw [nV_upd m k r r (cls_none hok hwf hqlt HN.out)] at hM
              go_wp2_with fail
              go_roundw
              case rel => exact ⟨r + 1, by omega, by go_num, hM⟩
              case measure => simp [intOf] <;> omega
        · have hq' : q = m.s := by omega
          subst hq'
          rw [nV_all] at hM
          have hr0 := (hM.at 0 rfl).all
          have ht0 := (hM.at 1 rfl).there 0 (nvs 16 (cV m (k + 1))).length (by simp [nvs_len])
          have hM5 := (hM.setAll 1 rfl (vs := nvs 16 (cV m (k + 1))) (by simp [nvs_len])).sub (List.sublist_cons_self _ _)
          have HM5 := Lib.hid hM5
          have HIC := Lib.hid (nvs16_info (cV m (k + 1)))
          have H1 := Lib.hid (nvs_one 16 (cV m (k + 1)))
          clear hM hM5
          obtain ⟨C, hC⟩ : ∃ C, C = nvs 16 (cV m (k + 1)) := ⟨_, rfl⟩
          rw [← hC] at hr0 ht0 HIC H1 HM5
          have HC := Lib.hid hC
          clear hC
          go_wp2_with (first | ((with_reducible refine ld_row ?_ 64 (.tmp 5) ?_ E 0 ?_ C (.array 16 2) hr0 Try.underlying64 ?_ HIC.out ?_); exact rfl; exact rfl; exact rfl; exact rfl) | ((with_reducible refine st_row ?_ 64 (.tmp 3) (.tmp 49) ?_ (w.heap.size + 1 + 1) 0 C ?_ ?_ ht0 HIC.out H1.out ?_); exact rfl; exact rfl; exact rfl; exact rfl))
          go_roundw
          case rel => exact ⟨k + 1, by omega, by go_num, by rw [← HC.out]; exact HM5.out⟩
          case measure => simp [intOf] <;> omega
    · have hk' : k = m.s + 1 := by omega
      subst hk'
      have HF : Hid (nvs 16 (cV m (m.s + 1)) = nvs 16 (fun q => if q < m.s then m.tbl.fin q else 0)) := nvs_congr fun q _ => by
        simp only [cV]
        by_cases h : q < m.s
        · rw [if_pos h, if_pos h]; exact m.tbl.fin_late (m.tbl_wf hok hwf) hok.s_pos (by show m.s ≤ _; omega) h
        · rw [if_neg h, if_neg h]
      rw [HF.out] at hM
      clear HF
      have hr0 := (hM.at 0 rfl).all
      have ht0 := (hM.at 1 rfl).there 0 (nvs 16 (fun q => if q < m.s then m.tbl.fin q else 0)).length (by simp [nvs_len])
      have hM5 := hM.setAll 1 rfl (vs := nvs 16 (fun q => if q < m.s then m.tbl.fin q else 0)) (by simp [nvs_len])
      have HIC := Lib.hid (nvs16_info (fun q => if q < m.s then m.tbl.fin q else 0))
      have H1 := Lib.hid (nvs_one 16 (fun q => if q < m.s then m.tbl.fin q else 0))
      have hres := hM5.at 1 rfl
      have hbl := hM5.below
      clear hM hM5
      obtain ⟨C, hC⟩ : ∃ C, C = nvs 16 (fun q => if q < m.s then m.tbl.fin q else 0) := ⟨_, rfl⟩
      rw [← hC] at hr0 ht0 HIC H1 hres hbl
      have HC := Lib.hid hC
      clear hC
      go_wp2_with (first | ((with_reducible refine ld_row ?_ 64 (.tmp 3) ?_ (w.heap.size + 1 + 1) 0 ?_ C (.array 16 2) hr0 Try.underlying64 ?_ HIC.out ?_); exact rfl; exact rfl; exact rfl; exact rfl) | ((with_reducible refine st_row ?_ 64 (.tmp 2) (.tmp 50) ?_ (w.heap.size + 1) 0 C ?_ ?_ ht0 HIC.out H1.out ?_); exact rfl; exact rfl; exact rfl; exact rfl))
      exact bodyPost_ret (v := .agg C.toArray) (results_cell_row Try.results89 _ _ (w.heap.size + 1) 64 C.toArray (0, 0) (.array 16 2) rfl hres Try.underlying64 rfl (HIC.out.trans (by rw [List.size_toArray]))) rfl ⟨congrArg (fun x : List Value => Ending.returned (.agg x.toArray)) HC.out, hbl⟩
end Go.Proofs.Yteagecoiijhflaa

/- What the laws do with slices of numbers and machines that come in: copies, sizes, comparisons. -/
namespace Go.Proofs.Yteagecoiijhflaa
open Go.RowKit
set_option linter.unusedVariables false
set_option linter.unusedSimpArgs false

/-- 'make([]int64, n)' -/
theorem mkI (n : Nat) (hn : n ≤ 2000000) (u : World) : (Instr.makeSlice 26 (.int .i64 (n : Int)) (.int .i64 (n : Int))).run Try.prog u =
    .ok (.slice (some ⟨u.heap.size, 0, none⟩) n n) (u.alloc (.cells (madeCells #[.int .i64 0] n) 2)) := by
  obtain ⟨i0, hi, hz0, hz1, hz2⟩ := info_parts Try.info2
  have h := run_make (P := Try.prog) u 26 2 i0 (.int .i64 0) Try.underlying26 hi hz0 .i64 .i64 (n : Int) (n : Int) (by omega) (Int.le_refl _) (by rw [hz2]; omega) (by omega)
  simpa [hz1, Value.cells] using h
theorem madeI (n : Nat) : (madeCells #[Value.int .i64 0] n).toList = i64s (List.replicate n 0) := by
  simp only [madeCells, Array.toList_map, Array.toList_range, i64s]
  apply List.ext_getElem?
  intro i
  by_cases hi : i < n <;> simp [hi, Nat.mod_one]

/-- k numbers copied -/
def cpy (xs : List Int) (k : Nat) : List Int := xs.take k ++ List.replicate (xs.length - k) 0
theorem cpy_zero (xs : List Int) : cpy xs 0 = List.replicate xs.length 0 := by simp [cpy]
theorem cpy_all (xs : List Int) : cpy xs xs.length = xs := by simp [cpy]
theorem cpy_length (xs : List Int) (k : Nat) (h : k ≤ xs.length) : (cpy xs k).length = xs.length := by simp [cpy]; omega
theorem cpy_succ (xs : List Int) (k : Nat) (h : k < xs.length) : (i64s (cpy xs k)).set k (.int .i64 (xs[k]?.getD 0)) = i64s (cpy xs (k + 1)) := by
  have e : xs.take (k + 1) = xs.take k ++ [xs[k]] := by rw [List.take_succ_eq_append_getElem h]
  have hl : (xs.take k).length = k := by rw [List.length_take]; omega
  simp only [cpy, i64s, e, List.map_append]
  rw [List.set_append_right _ _ (by rw [List.length_map, hl]; omega), List.append_assoc]
  congr 1
  rw [show k - ((xs.take k).map (Value.int .i64)).length = 0 by rw [List.length_map, hl]; omega, show xs.length - k = (xs.length - (k + 1)) + 1 by omega, List.replicate_succ, List.map_cons, List.set_cons_zero, List.getElem?_eq_getElem h]
  rfl

set_option maxHeartbeats 1000000 in
theorem toInt64S_any (a : Option Addr) (xs : List Int) (c : Nat) (hx : xs.length ≤ 1100000) (w : World) (hI : IntsAt w a xs) :
    Calls Try.prog 18 #[.slice a xs.length c] w fun e w' => ∃ v, e = .returned v ∧ Below w.heap.size w w' ∧ OwnI w' w.heap.size v xs := by
  have HI := Lib.hid hI
  clear hI
  have hmk := mkI xs.length (by omega) w
  have hM0 := (Mm.start w).alloc (madeCells #[.int .i64 0] xs.length) 2
  rw [madeI, ← cpy_zero] at hM0
  go_enter Try.func18, Try.ntmps18
  go_wp2_with fail
  clear hmk
  go_loopw [4] (fun i wr => ∃ k : Nat, k ≤ xs.length ∧ i = .int .i64 k ∧ Mm w.heap.size w wr [(w.heap.size, i64s (cpy xs k), 2)] []) (fun i _ => xs.length - (intOf i).toNat)
  case atStart => exact ⟨0, Nat.zero_le _, rfl, hM0⟩
  case round =>
    clear hM0
    obtain ⟨k, hk, rfl, hM⟩ := hrel
    by_cases hlt : k < xs.length
    · obtain ⟨g, off, rfl, hc⟩ := HI.out k hlt
      rw [← hM.below.cell (p := ⟨g, off + k, none⟩) (World.block_lt_of_cell? w _ hc)] at hc
      have hB := hM.at 0 rfl
      have c1 := hB.cell' (i64s_get (xs := cpy xs k) (i := k) (by rw [cpy_length xs k hk]; exact hlt))
      have f1 := hB.free k
      have i1 : (0 : Int) ≤ (k : Int) := by omega
      have i2 : (k : Int) < (xs.length : Int) := by omega
      have hset := Lib.hid (hM.setCell 0 rfl k (.int .i64 (xs[k]?.getD 0)))
      rw [cpy_succ xs k hlt] at hset
      clear hM hB
      generalize xs[k]?.getD 0 = x at *
      generalize (cpy xs k)[k]?.getD 0 = y at *
      go_wp2_with fail
      go_roundw
      case rel => exact ⟨k + 1, by omega, by go_num, hset.out⟩
      case measure => simp [intOf]; omega
    · have hk' : k = xs.length := by omega
      subst hk'
      rw [cpy_all] at hM
      have hF := Lib.hid (hM.addOwn (List.mem_singleton.2 rfl) xs.length (by simp [i64s]) (by omega))
      clear hM
      go_wp2_with fail
      go_ret
      exact ⟨_, rfl, hF.out.below, by simpa [OwnI, i64s] using hF.out.own _ (List.mem_cons_self ..)⟩

end Go.Proofs.Yteagecoiijhflaa

/- Equal states of the program: (*table).least. -/
namespace Go.Proofs.Yteagecoiijhflaa
open Go.RowKit
set_option linter.unusedVariables false
set_option linter.unusedSimpArgs false

/-- a table for reading -/
def TabG (w : World) (T : Nat) (t : Tbl) : Prop := ∃ gN cN gO cO, w.cell? ⟨T, 0, none⟩ = some (.slice (some ⟨gN, 0, none⟩) t.n cN) ∧ w.cell? ⟨T, 1, none⟩ = some (.slice (some ⟨gO, 0, none⟩) t.n cO) ∧
  (∀ q, q < t.n → ∃ g c, w.cell? ⟨gN, q, none⟩ = some (.slice (some ⟨g, 0, none⟩) t.d c) ∧ ∀ x, x < t.d → w.cell? ⟨g, x, none⟩ = some (.int .i64 (t.nx q x))) ∧
  (∀ q, q < t.n → ∃ g c, w.cell? ⟨gO, q, none⟩ = some (.slice (some ⟨g, 0, none⟩) t.d c) ∧ ∀ x, x < t.d → w.cell? ⟨g, x, none⟩ = some (.int .i64 (t.ot q x)))
theorem TabR.gen {w : World} {T : Nat} {m : Mch} (h : TabR w T m) : TabG w T m.tbl := h
theorem TabG.keep {w w' : World} {T : Nat} {t : Tbl} (h : TabG w T t) (hb : Below w.heap.size w w') : TabG w' T t := by
  have K : ∀ (a : Addr) (v : Value), w.cell? a = some v → w'.cell? a = some v := fun a v h => (hb.cell (World.block_lt_of_cell? w a h)).trans h
  obtain ⟨gN, cN, gO, cO, h1, h2, h3, h4⟩ := h
  refine ⟨gN, cN, gO, cO, K _ _ h1, K _ _ h2, fun q hq => ?_, fun q hq => ?_⟩
  · obtain ⟨g, c, e, f⟩ := h3 q hq; exact ⟨g, c, K _ _ e, fun x hx => K _ _ (f x hx)⟩
  · obtain ⟨g, c, e, f⟩ := h4 q hq; exact ⟨g, c, K _ _ e, fun x hx => K _ _ (f x hx)⟩
theorem TabG.lt {w : World} {T : Nat} {t : Tbl} (h : TabG w T t) : T < w.heap.size := by
  obtain ⟨gN, cN, gO, cO, h1, h2, h3, h4⟩ := h
  exact World.block_lt_of_cell? w _ h1

set_option maxHeartbeats 1000000 in
theorem slEqI_any (a b : Option Addr) (c d : Nat) (xs ys : List Int) (hx : xs.length ≤ 1000000) (w : World) (ha : IntsAt w a xs) (hb : IntsAt w b ys) :
    Calls Try.prog 135 #[.slice a xs.length c, .slice b ys.length d] w (RetQ (.bool (decide (xs = ys))) w) := by
  have HA := Lib.hid ha
  have HB := Lib.hid hb
  clear ha hb
  go_enter Try.func135, Try.ntmps135
  by_cases hl : xs.length = ys.length
  · have hle : ((xs.length : Int) == (ys.length : Int)) = true := by simp; omega
    have hln : ((xs.length : Int) != (ys.length : Int)) = false := by simp; omega
    go_wp2_with fail
    go_loopw [13] (fun i wr => ∃ k : Nat, k ≤ xs.length ∧ i = .int .i64 k ∧ Hid (∃ n, wr = w.drewN n) ∧ Hid (∀ j, j < k → xs[j]? = ys[j]?)) (fun i _ => xs.length - (intOf i).toNat)
    case atStart => exact ⟨0, Nat.zero_le _, rfl, ⟨0, rfl⟩, fun j hj => by omega⟩
    case round =>
      obtain ⟨k, hk, rfl, HW, HE⟩ := hrel
      by_cases hlt : k < xs.length
      · obtain ⟨g, off, rfl, hc⟩ := HA.out k hlt
        obtain ⟨g', off', rfl, hc'⟩ := HB.out k (by omega)
        have hcell : ∀ a, wr.cell? a = w.cell? a := fun a => by obtain ⟨n, hn⟩ := HW.out; rw [hn]; rfl
        rw [← hcell] at hc hc'
        clear hcell
        have i1 : (0 : Int) ≤ (k : Int) := by omega
        have i2 : (k : Int) < (xs.length : Int) := by omega
        have i3 : (k : Int) < (ys.length : Int) := by omega
        have i4 : k < ys.length := by omega
        obtain ⟨x, hx⟩ : ∃ x, x = xs[k]?.getD 0 := ⟨_, rfl⟩
        obtain ⟨y, hy⟩ : ∃ y, y = ys[k]?.getD 0 := ⟨_, rfl⟩
        rw [← hx] at hc
        rw [← hy] at hc'
        by_cases e : x = y
        · have HN : Hid (∀ j, j < k + 1 → xs[j]? = ys[j]?) := fun j hj => by
            by_cases h : j = k
            · subst h
              rw [List.getElem?_eq_getElem hlt, List.getElem?_eq_getElem i4] at *
              simp only [Option.getD_some] at hx hy
              rw [← hx, ← hy, e]
            · exact HE.out j (by omega)
          subst e
          clear hx hy
          go_wp2_with fail
          go_quiet (fail)
          go_wp2_with fail
          go_roundw
          case rel => exact ⟨k + 1, by omega, by go_num, by obtain ⟨n, hn⟩ := HW.out; rw [hn]; exact dN2 _ _ _, HN⟩
          case measure => simp [intOf] <;> omega
        · have H : Hid (decide (xs = ys) = false) := by
            show _ = _
            simp only [decide_eq_false_iff_not]; intro h; rw [h] at hx; exact e (hx.trans hy.symm)
          have e' : (x != y) = true := by simpa using e
          clear e hx hy
          go_wp2_with fail
          go_quiet (fail)
          go_wp2_with fail
          go_ret
          exact ⟨ret_bool H.out.symm, by obtain ⟨n, hn⟩ := HW.out; rw [hn]; exact dN2 _ _ _⟩
      · have H : Hid (decide (xs = ys) = true) := by
          show _ = _
          simp only [decide_eq_true_eq]
          apply List.ext_getElem?
          intro j
          by_cases hj : j < k
          · exact HE.out j hj
          · rw [List.getElem?_eq_none (by omega), List.getElem?_eq_none (by omega)]
        go_wp2_with fail
        go_ret
        exact ⟨ret_bool H.out.symm, HW.out⟩
  · have H : Hid (decide (xs = ys) = false) := by
      show _ = _
      simp only [decide_eq_false_iff_not]; intro e; rw [e] at hl; exact hl rfl
    have hle : ((xs.length : Int) == (ys.length : Int)) = false := by simp; omega
    have hln : ((xs.length : Int) != (ys.length : Int)) = true := by simp; omega
    clear hl
    go_wp2_with fail
    go_ret
    exact ⟨ret_bool H.out.symm, 0, rfl⟩

/-- the outputs of a state -/
def rowL (t : Tbl) (q : Nat) : List Int := (List.range t.d).map fun x => (t.ot q x : Int)
theorem rowL_len (t : Tbl) (q : Nat) : (rowL t q).length = t.d := by simp [rowL]
theorem rowL_get (t : Tbl) (q : Nat) {x : Nat} (h : x < t.d) : (rowL t q)[x]?.getD 0 = (t.ot q x : Int) := by simp [rowL, h]
theorem rowL_eqv (t : Tbl) (q r : Nat) : decide (rowL t r = rowL t q) = t.eqv 1 q r := by
  rw [Bool.eq_iff_iff, decide_eq_true_eq, Tbl.eqv_succ]
  constructor
  · intro h x hx
    refine ⟨?_, rfl⟩
    have := congrArg (fun l : List Int => l[x]?.getD 0) h
    simp only [rowL_get t _ hx] at this
    omega
  · intro h
    apply List.map_congr_left
    intro x hx
    have := (h x (by simpa using hx)).1
    omega

theorem enters_least1 : Enters 134 := fun args w => by kernel_rfl
set_option maxRecDepth 100000 in
set_option maxHeartbeats 1000000 in
theorem least1_any (t : Tbl) (hn : t.n ≤ 1000) (hd : t.d ≤ 100) (T p1 p4 : Nat) (g c r q : Nat) (hq : q < t.n) (w : World) (hT : TabG w T t) (h1 : w.cell? ⟨p1, 0, none⟩ = some (.pointer (some ⟨T, 0, none⟩))) (h4 : w.cell? ⟨p4, 0, none⟩ = some (.int .i64 q))
    (hrow : ∀ x, x < t.d → w.cell? ⟨g, x, none⟩ = some (.int .i64 (t.ot r x))) :
    Calls Try.prog 134 #[.slice (some ⟨g, 0, none⟩) t.d c, .pointer (some ⟨p1, 0, none⟩), .pointer (some ⟨p4, 0, none⟩)] w (RetQ (.bool (t.eqv 1 q r)) w) := by
  obtain ⟨gN, cN, gO, cO, t1, t2, t3, t4⟩ := hT
  obtain ⟨g', c', e, f⟩ := t4 q hq
  have HEQ : Hid (∀ n, Calls Try.prog 135 #[.slice (some ⟨g, 0, none⟩) t.d c, .slice (some ⟨g', 0, none⟩) t.d c'] (w.drewN n) (RetQ (.bool (t.eqv 1 q r)) (w.drewN n))) := fun n => by
    have := slEqI_any (some ⟨g, 0, none⟩) (some ⟨g', 0, none⟩) c c' (rowL t r) (rowL t q) (by rw [rowL_len]; omega) (w.drewN n)
      (fun i hi => ⟨g, 0, rfl, by rw [rowL_len] at hi; rw [rowL_get t _ hi, Nat.zero_add]; exact hrow i hi⟩) (fun i hi => ⟨g', 0, rfl, by rw [rowL_len] at hi; rw [rowL_get t _ hi, Nat.zero_add]; exact f i hi⟩)
    rw [rowL_len, rowL_len, rowL_eqv] at this
    exact this
  have i1 : (0 : Int) ≤ (q : Int) := by omega
  have i2 : (q : Int) < (t.n : Int) := by omega
  clear t3 t4 f hrow t1
  go_enter Try.func134, Try.ntmps134
  go_wp2_with fail
  go_quiet ((go_at_call 135; exact Calls.quiet_of (HEQ.out _)))
  go_wp2_with fail
  go_ret
  exact ⟨rfl, _, rfl⟩

/-- the first number below n that p lets in, or -1 -/
def idxN (p : Nat → Bool) (n : Nat) : Int := match (List.range n).find? p with | some i => (i : Int) | none => -1
theorem idxN_hit {p : Nat → Bool} {n k : Nat} (hk : k < n) (h1 : p k = true) (h2 : ∀ j, j < k → p j = false) : idxN p n = k := by
  have : (List.range n).find? p = some k := by
    rw [List.find?_range_eq_some]
    exact ⟨h1, by simpa using hk, fun j hj => by rw [h2 j hj]; rfl⟩
  rw [idxN, this]
theorem idxN_none {p : Nat → Bool} {n : Nat} (h : ∀ j, j < n → p j = false) : idxN p n = -1 := by
  have : (List.range n).find? p = none := by
    rw [List.find?_eq_none]
    intro x hx
    rw [h x (by simpa using hx)]; decide
  rw [idxN, this]

set_option maxRecDepth 100000 in
set_option maxHeartbeats 1000000 in
theorem indexFuncII_any (k : Nat) (hent : Enters k) (cap : Array Value) (g n c : Nat) (hn : n ≤ 1000000) (rv : Nat → Value) (p : Nat → Bool) (w : World)
    (hc : ∀ i, i < n → w.cell? ⟨g, i, none⟩ = some (rv i)) (hf : ∀ j i, i < n → Calls Try.prog k (#[rv i] ++ cap) (w.drewN j) (RetQ (.bool (p i)) (w.drewN j))) :
    Calls Try.prog 125 #[.slice (some ⟨g, 0, none⟩) n c, .func (.func k) #[] cap] w (RetQ (.int .i64 (idxN p n)) w) := by
  have hent' : ∀ args w, Sem.run Try.prog (callFunc k args) w = .ok (.enter k args) w := hent
  have HC := Lib.hid hc
  have HF := Lib.hid hf
  clear hc hf hent
  go_enter Try.func125, Try.ntmps125
  go_wp2_with fail
  go_loopw [8] (fun i wr => ∃ j : Nat, j ≤ n ∧ i = .int .i64 j ∧ Hid (∃ m, wr = w.drewN m) ∧ Hid (∀ i, i < j → p i = false)) (fun i _ => n - (intOf i).toNat)
  case atStart => exact ⟨0, Nat.zero_le _, rfl, ⟨0, rfl⟩, fun i hi => by omega⟩
  case round =>
    obtain ⟨j, hj, rfl, HW, HI⟩ := hrel
    by_cases hlt : j < n
    · have hcell := HC.out j hlt
      have hcw : wr.cell? ⟨g, j, none⟩ = w.cell? ⟨g, j, none⟩ := by obtain ⟨n, hn⟩ := HW.out; rw [hn]; rfl
      rw [← hcw] at hcell
      have i1 : (j : Int) < (n : Int) := by omega
      have i2 : (0 : Int) ≤ (j : Int) := by omega
      have hcall : Hid (Calls Try.prog k (#[rv j] ++ cap) wr (RetQ (.bool (p j)) wr)) := by
        obtain ⟨n, hn⟩ := HW.out; rw [hn]; exact HF.out n j hlt
      generalize rv j = v at *
      clear hcw
      go_wp2_with fail
      refine hcall.out.mono ?_
      rintro e w1 ⟨rfl, HW1⟩
      have HW2 : Hid (∃ m, w1 = w.drewN m) := by obtain ⟨a, ha⟩ := HW1; obtain ⟨b, hb⟩ := HW.out; rw [ha, hb]; exact dN2 _ _ _
      clear HW1 hcall hcell
      cases hp : p j
      · have HJ : Hid (∀ i, i < j + 1 → p i = false) := fun i hi => by
          by_cases e : i = j
          · subst e; exact hp
          · exact HI.out i (by omega)
        clear hp
        go_wp2_with fail
        go_roundw
        case rel => exact ⟨j + 1, by omega, by go_num, HW2, HJ⟩
        case measure => simp [intOf] <;> omega
      · have HJ := Lib.hid (idxN_hit hlt hp HI.out)
        clear hp
        go_wp2_with fail
        go_ret
        exact ⟨ret_int HJ.out.symm, HW2.out⟩
    · have HJ := Lib.hid (idxN_none (p := p) (n := n) (fun i hi => HI.out i (by omega)))
      have hj' : ¬ (j : Int) < n := by omega
      go_wp2_with fail
      go_ret
      exact ⟨ret_int HJ.out.symm, HW.out⟩
end Go.Proofs.Yteagecoiijhflaa

/- (*table).like, (*table).least. -/
namespace Go.Proofs.Yteagecoiijhflaa
open Go.RowKit
set_option linter.unusedVariables false
set_option linter.unusedSimpArgs false

def okL (t : Tbl) (c : Nat → Nat) (q r : Nat) : Bool := c r == c q && (List.range t.d).all fun x => c (t.nx q x) == c (t.nx r x)
theorem okL_eqv {t : Tbl} (hw : t.Wf) {k : Nat} (hk : 1 ≤ k) {c : Nat → Nat} (hc : ∀ q, q < t.n → c q = t.cls k q) {q r : Nat} (hq : q < t.n) (hr : r < t.n) : okL t c q r = t.eqv (k + 1) q r := by
  rw [Bool.eq_iff_iff, Tbl.eqv_succ]
  simp only [okL, Bool.and_eq_true, beq_iff_eq, List.all_eq_true, List.mem_range]
  rw [hc q hq, hc r hr]
  constructor
  · rintro ⟨h1, h2⟩ x hx
    have e := h2 x hx
    rw [hc _ (hw q x hq hx), hc _ (hw r x hr hx)] at e
    refine ⟨?_, (t.cls_iff k _ _).2 e⟩
    obtain ⟨j, rfl⟩ : ∃ j, k = j + 1 := ⟨k - 1, by omega⟩
    exact ((t.eqv_succ j q r).1 ((t.cls_iff (j + 1) q r).2 h1.symm) x hx).1
  · intro h
    have h' : t.eqv (k + 1) q r = true := (t.eqv_succ k q r).2 h
    refine ⟨((t.cls_iff k q r).1 (t.eqv_mono k q r h')).symm, fun x hx => ?_⟩
    rw [hc _ (hw q x hq hx), hc _ (hw r x hr hx)]
    exact (t.cls_iff k _ _).1 (h x hx).2
theorem okL_low {t : Tbl} {k : Nat} {c : Nat → Nat} (hc : ∀ q, q < t.n → c q = t.cls k q) {q s : Nat} (hq : q < t.n) (hs : s < c q) : t.eqv (k + 1) q s = false := by
  rw [hc q hq] at hs
  have := lst_min hs
  cases e : t.eqv (k + 1) q s
  · rfl
  · rw [t.eqv_mono k q s e] at this; cases this

set_option maxRecDepth 100000 in
set_option maxHeartbeats 4000000 in
theorem like_any (t : Tbl) (hw : t.Wf) (hn : t.n ≤ 1000) (hd : t.d ≤ 100) (T : Nat) (k : Nat) (hk : 1 ≤ k) (c : Nat → Nat) (hc : ∀ q, q < t.n → c q = t.cls k q) (g : Nat) (q : Nat) (hq : q < t.n) (w : World) (hT : TabG w T t)
    (hB : ∀ q, q < t.n → w.cell? ⟨g, q, none⟩ = some (.int .i64 (c q))) :
    Calls Try.prog 136 #[.pointer (some ⟨T, 0, none⟩), .slice (some ⟨g, 0, none⟩) t.n t.n, .int .i64 q] w (RetQ (.int .i64 (t.cls (k + 1) q)) w) := by
  obtain ⟨gN, cN, gO, cO, t1, t2, t3, t4⟩ := hT
  have hcq : c q ≤ q := by rw [hc q hq]; exact t.cls_le k q
  have e1 := hB q hq
  have HB := Lib.hid hB
  have H3 := Lib.hid t3
  have HC := Lib.hid hc
  have HW := Lib.hid hw
  have i1 : (0 : Int) ≤ (q : Int) := by omega
  have i2 : (q : Int) < (t.n : Int) := by omega
  obtain ⟨a, ha⟩ : ∃ a, a = c q := ⟨_, rfl⟩
  rw [← ha] at e1 hcq
  have HA := Lib.hid ha
  clear t2 t3 t4 hB hc hw ha
  go_enter Try.func136, Try.ntmps136
  go_wp2_with fail
  clear e1
  go_loopw [7] (fun i wr => ∃ r : Nat, a ≤ r ∧ r ≤ q ∧ i = .int .i64 r ∧ Hid (∃ m, wr = w.drewN m) ∧ Hid (∀ s, s < r → t.eqv (k + 1) q s = false)) (fun i _ => q - (intOf i).toNat)
  case atStart => exact ⟨a, Nat.le_refl _, hcq, rfl, ⟨0, rfl⟩, fun s hs => okL_low HC.out hq (by rw [← HA.out]; exact hs)⟩
  case round =>
    obtain ⟨r, har, hr, rfl, HD, HN⟩ := hrel
    by_cases hlt : r < q
    · have hcell : ∀ a, wr.cell? a = w.cell? a := fun a => by obtain ⟨n, hn⟩ := HD.out; rw [hn]; rfl
      have HCELL := Lib.hid hcell
      clear hcell
      have b1 := (HCELL.out _).trans (HB.out q hq)
      have b2 := (HCELL.out _).trans (HB.out r (by omega))
      have HOK : Hid (okL t c q r = t.eqv (k + 1) q r) := okL_eqv HW.out hk HC.out hq (by omega)
      have HNX : Hid (t.eqv (k + 1) q r = false → ∀ s, s < r + 1 → t.eqv (k + 1) q s = false) := fun h s hs => by
        by_cases e : s = r
        · subst e; exact h
        · exact HN.out s (by omega)
      have HOD : Hid (okL t c q r = (c r == c q && (List.range t.d).all fun x => c (t.nx q x) == c (t.nx r x))) := rfl
      have j1 : (0 : Int) ≤ (r : Int) := by omega
      have j2 : (r : Int) < (t.n : Int) := by omega
      have j3 : (r : Int) < (q : Int) := by omega
      obtain ⟨u, hu⟩ : ∃ u, u = c q := ⟨_, rfl⟩
      obtain ⟨v, hv⟩ : ∃ v, v = c r := ⟨_, rfl⟩
      rw [← hu] at b1 HOD
      rw [← hv] at b2 HOD
      by_cases e : v = u
      · have HV := Lib.hid hv
        subst e
        clear hu hv
        obtain ⟨gq, cq, f1, f2⟩ := H3.out q hq
        obtain ⟨gr, cr, f3, f4⟩ := H3.out r (by omega)
        have HF2 := Lib.hid f2
        have HF4 := Lib.hid f4
        have d1 := (HCELL.out _).trans t1
        have d2 := (HCELL.out _).trans f1
        have d3 := (HCELL.out _).trans f3
        clear f2 f4
        go_wp2_with fail
        go_quiet (fail)
        go_wp2_with fail
        clear b1 b2
        go_loopw [8, 37] (fun s8 i wi => ∃ x : Nat, x ≤ t.d ∧ i = .int .i64 x ∧ s8 = .bool ((List.range x).all fun x => c (t.nx q x) == c (t.nx r x)) ∧ Hid (∃ m, wi = w.drewN m)) (fun _ i _ => t.d - (intOf i).toNat)
        case atStart => exact ⟨0, Nat.zero_le _, rfl, rfl, by obtain ⟨n, hn⟩ := HD.out; rw [hn]; exact dN2 _ _ _⟩
        case round =>
          clear d1 d2 d3
          obtain ⟨x, hx, rfl, rfl, HDi⟩ := hrel
          have hcell : ∀ a, wr.cell? a = w.cell? a := fun a => by obtain ⟨n, hn⟩ := HDi.out; rw [hn]; rfl
          have HCELL := Lib.hid hcell
          clear hcell
          by_cases hxlt : x < t.d
          · have d1 := (HCELL.out _).trans t1
            have d2 := (HCELL.out _).trans (HF2.out x hxlt)
            have d3 := (HCELL.out _).trans f3
            have d4 := (HCELL.out _).trans (HF4.out x hxlt)
            have n1 := HW.out q x hq hxlt
            have n2 := HW.out r x (by omega) hxlt
            have d5 := (HCELL.out _).trans (HB.out _ n1)
            have d6 := (HCELL.out _).trans (HB.out _ n2)
            have HX := Lib.hid (allUpto_succ (fun x => c (t.nx q x) == c (t.nx r x)) x)
            have k1 : (0 : Int) ≤ (x : Int) := by omega
            have k2 : (x : Int) < (t.d : Int) := by omega
            generalize t.nx q x = z1 at *
            generalize t.nx r x = z2 at *
            have k3 : (0 : Int) ≤ (z1 : Int) := by omega
            have k4 : (z1 : Int) < (t.n : Int) := by omega
            have k5 : (0 : Int) ≤ (z2 : Int) := by omega
            have k6 : (z2 : Int) < (t.n : Int) := by omega
            generalize c z1 = y1 at *
            generalize c z2 = y2 at *
            cases hs : (List.range x).all fun x => c (t.nx q x) == c (t.nx r x)
            · rw [hs] at HX
              clear hs
              go_wp2_with fail
              go_quiet (fail)
              go_wp2_with fail
              go_roundw
              case rel => exact ⟨x + 1, by omega, by go_num, by rw [HX.out]; rfl, by obtain ⟨n, hn⟩ := HDi.out; rw [hn]; exact dN2 _ _ _⟩
              case measure => simp [intOf] <;> omega
            · rw [hs] at HX
              clear hs
              have HY : Hid (((y1 : Int) == (y2 : Int)) = (y1 == y2)) := by show _ = _; rw [Bool.eq_iff_iff]; simp; omega
              go_wp2_with fail
              go_quiet (fail)
              go_wp2_with fail
              go_roundw
              case rel => exact ⟨x + 1, by omega, by go_num, by rw [HX.out, HY.out]; simp, by obtain ⟨n, hn⟩ := HDi.out; rw [hn]; exact dN2 _ _ _⟩
              case measure => simp [intOf] <;> omega
          · have hx' : x = t.d := by omega
            subst hx'
            cases hs : (List.range t.d).all fun x => c (t.nx q x) == c (t.nx r x)
            · have HE := Lib.hid (HNX.out (by rw [← HOK.out, HOD.out, hs]; simp))
              clear hs
              go_wp2_with fail
              go_roundw
              case rel => exact ⟨r + 1, by omega, by omega, by go_num, HDi, HE.out⟩
              case measure => simp [intOf] <;> omega
            · have hE : t.eqv (k + 1) q r = true := by rw [← HOK.out, HOD.out, hs]; simp
              have HE : Hid (t.cls (k + 1) q = r) := lst_eq (by omega) (fun _ => hE) HN.out
              clear hs hE
              go_wp2_with fail
              go_ret
              exact ⟨ret_int (by rw [HE.out]), HDi.out⟩
      · have HE := Lib.hid (HNX.out (by rw [← HOK.out, HOD.out]; simp [e]))
        have e' : ((v : Int) != (u : Int)) = true := by simp; omega
        clear hu hv e
        go_wp2_with fail
        go_quiet (fail)
        go_wp2_with fail
        go_roundw
        case rel => exact ⟨r + 1, by omega, by omega, by go_num, by obtain ⟨n, hn⟩ := HD.out; rw [hn]; exact dN2 _ _ _, HE.out⟩
        case measure => simp [intOf] <;> omega
    · have hr' : r = q := by omega
      subst hr'
      have HE : Hid (t.cls (k + 1) r = r) := lst_eq (Nat.le_refl _) (fun h => by omega) HN.out
      go_wp2_with fail
      go_ret
      exact ⟨ret_int (by rw [HE.out]), HD.out⟩
end Go.Proofs.Yteagecoiijhflaa
