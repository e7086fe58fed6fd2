/- Equal states of the reference: l01Same, l01Classes. -/
import Derived.Test.YtmacnofkpdikiaaW2
import Derived.Test.YtmacnofkpdikiaaN3
import Derived.Test.YtmacnofkpdikiaaQ1
namespace Go.Proofs.Ytmacnofkpdikiaa
open Go.RowKit
set_option linter.unusedVariables false
set_option linter.unusedSimpArgs false

theorem nvs_len (n : Nat) (f : Nat → Nat) : (nvs n f).length = n := by simp [nvs]
theorem nvs_one (n : Nat) (f : Nat → Nat) : ∀ v ∈ nvs n f, v.oneCell' = true := fun v hv => by simp only [nvs, List.mem_map] at hv; obtain ⟨z, _, rfl⟩ := hv; rfl
theorem nvs16_info (f : Nat → Nat) : (Try.prog.info? 99).map (·.size) = some (nvs 16 f).length := by rw [nvs_len]; kernel_rfl
theorem nvs_congr {n : Nat} {f g : Nat → Nat} (h : ∀ q, q < n → f q = g q) : nvs n f = nvs n g := by
  simp only [nvs]
  exact List.map_congr_left fun q hq => by rw [h q (by simpa using hq)]

def sameB (m : Mch) (c : Nat → Nat) (q r : Nat) : Bool := (List.range m.l).all fun x => m.on q x == m.on r x && c (m.nn q x) == c (m.nn r x)
theorem sameB_false {m : Mch} {c : Nat → Nat} {q r x : Nat} (hx : x < m.l) (h : (m.on q x == m.on r x && c (m.nn q x) == c (m.nn r x)) = false) : sameB m c q r = false := by
  rw [sameB, List.all_eq_false]; exact ⟨x, by simpa using hx, by simp [h]⟩
theorem allUpto_succ (f : Nat → Bool) (k : Nat) : (List.range (k + 1)).all f = ((List.range k).all f && f k) := by simp [List.range_succ]

set_option maxRecDepth 100000 in
set_option maxHeartbeats 1000000 in
theorem l01Same_any (m : Mch) (hwf : m.Wf) (hok : m.Ok) (c : Nat → Nat) (q r : Nat) (hq : q < m.s) (hr : r < m.s) (w : World) :
    Calls Try.prog 115 #[.agg m.cells.toArray, .agg (nvs 16 c).toArray, .int .i64 q, .int .i64 r] w (Ret (.bool (sameB m c q r)) w) := by
  have hM0 := ((Mm.start w).alloc m.cells.toArray 44).alloc (nvs 16 c).toArray 99
  rw [show (w.alloc (.cells m.cells.toArray 44)).heap.size = w.heap.size + 1 by simp, List.toList_toArray, List.toList_toArray] at hM0
  have hs16 := hok.s_le
  have hl3 := hok.l_le
  go_enter Try.func115, Try.ntmps115
  go_wp2_with fail
  go_loopw [9] (fun i wr => ∃ x : Nat, x ≤ m.l ∧ i = .int .i64 x ∧ Mm w.heap.size w wr [(w.heap.size + 1, nvs 16 c, 99), (w.heap.size, m.cells, 44)] [] ∧ Hid ((List.range x).all (fun x => m.on q x == m.on r x && c (m.nn q x) == c (m.nn r x)) = true)) (fun i _ => m.l - (intOf i).toNat)
  case atStart => exact ⟨0, Nat.zero_le _, rfl, hM0, rfl⟩
  case round =>
    clear hM0
    obtain ⟨x, hx, rfl, hM, HA⟩ := hrel
    have hm := hM.mach 1 rfl
    have hcl : wr.cell? ⟨w.heap.size, 0, none⟩ = some (.int .i64 (m.l : Int)) := by rw [← hok.L_eq]; exact hm.l
    by_cases hxlt : x < m.l
    · have a1 := hm.oo hwf (q := q) (x := x) (by omega) (by omega)
      have a2 := hm.oo hwf (q := r) (x := x) (by omega) (by omega)
      have b1 := hm.nn hwf (q := q) (x := x) (by omega) (by omega)
      have b2 := hm.nn hwf (q := r) (x := x) (by omega) (by omega)
      rw [hok.o_eq hwf hq hxlt] at a1
      rw [hok.o_eq hwf hr hxlt] at a2
      rw [hok.n_eq hwf hq hxlt] at b1
      rw [hok.n_eq hwf hr hxlt] at b2
      have n1 := hok.nn_lt hwf hq hxlt
      have n2 := hok.nn_lt hwf hr hxlt
      have hB := hM.at 0 rfl
      have c1 := hB.cell' (nvs_get c (q := m.nn q x) (by omega))
      have c2 := hB.cell' (nvs_get c (q := m.nn r x) (by omega))
      have HF : Hid ((m.on q x == m.on r x && c (m.nn q x) == c (m.nn r x)) = false → sameB m c q r = false) := fun h => sameB_false hxlt h
      have HN := Lib.hid (allUpto_succ (fun x => m.on q x == m.on r x && c (m.nn q x) == c (m.nn r x)) x)
      rw [HA.out] at HN
      have i1 : (0 : Int) ≤ (x : Int) := by omega
      have i2 : (x : Int) < 3 := by omega
      have i3 : (q : Int) < 16 := by omega
      have i4 : (r : Int) < 16 := by omega
      have i5 : (0 : Int) ≤ (q : Int) := by omega
      have i6 : (0 : Int) ≤ (r : Int) := by omega
      clear hm hB
      generalize m.on q x = y1 at *
      generalize m.on r x = y2 at *
      generalize m.nn q x = z1 at *
      generalize m.nn r x = z2 at *
      generalize c z1 = k1 at *
      generalize c z2 = k2 at *
      have i7 : (z1 : Int) < 16 := by omega
      have i8 : (z2 : Int) < 16 := by omega
      by_cases e1 : y1 = y2
      · subst e1
        by_cases e2 : k1 = k2
        · subst e2
          have HT : Hid ((List.range (x + 1)).all (fun x => m.on q x == m.on r x && c (m.nn q x) == c (m.nn r x)) = true) := by show _ = _; rw [HN.out]; simp
          go_wp2_with fail
          go_quiet (fail)
          go_wp2_with fail
          go_roundw
          case rel => exact ⟨x + 1, by omega, by go_num, hM.drewN _, HT⟩
          case measure => simp [intOf] <;> omega
        · have HR := Lib.hid (HF.out (by simp [e2]))
          have e2' : ((k1 : Int) != (k2 : Int)) = true := by simp; omega
          clear e2
          go_wp2_with fail
          go_quiet (fail)
          go_wp2_with fail
          go_ret
          exact ⟨ret_bool HR.out.symm, (hM.drewN _).below⟩
      · have HR := Lib.hid (HF.out (by simp [e1]))
        have e1' : ((y1 : Int) != (y2 : Int)) = true := by simp; omega
        clear e1
        go_wp2_with fail
        go_quiet (fail)
        go_wp2_with fail
        go_ret
        exact ⟨ret_bool HR.out.symm, (hM.drewN _).below⟩
    · have hx' : x = m.l := by omega
      subst hx'
      have hbl := hM.below
      clear hm hM
      go_wp2_with fail
      go_ret
      exact ⟨ret_bool HA.out.symm, hbl⟩

/-! the classes -/
theorem sameB_eqv {m : Mch} {k q r : Nat} (hq : q < m.s) (hr : r < m.s) (hok : m.Ok) (hwf : m.Wf) {c : Nat → Nat} (hc : ∀ q, q < m.s → c q = m.tbl.cls k q) : sameB m c q r = true ↔ m.tbl.eqv (k + 1) q r = true := by
  rw [Tbl.eqv_succ]
  simp only [sameB, List.all_eq_true, List.mem_range, Bool.and_eq_true, beq_iff_eq]
  constructor
  · intro h x hx
    have := h x hx
    rw [hc _ (hok.nn_lt hwf hq hx), hc _ (hok.nn_lt hwf hr hx)] at this
    exact ⟨this.1, (m.tbl.cls_iff k _ _).2 this.2⟩
  · intro h x hx
    have := h x hx
    rw [hc _ (hok.nn_lt hwf hq hx), hc _ (hok.nn_lt hwf hr hx)]
    exact ⟨this.1, (m.tbl.cls_iff k _ _).1 this.2⟩
def cV (m : Mch) (k q : Nat) : Nat := if q < m.s then m.tbl.cls k q else 0
theorem cV_lt {m : Mch} {k q : Nat} (h : q < m.s) : cV m k q = m.tbl.cls k q := if_pos h
/-- the classes of the first j states of the next round -/
def nV (m : Mch) (k j q : Nat) : Nat := if q < j then m.tbl.cls (k + 1) q else 0
theorem nV_upd (m : Mch) (k j v : Nat) (h : m.tbl.cls (k + 1) j = v) : updN (nV m k j) j v = nV m k (j + 1) := by
  funext q
  simp only [updN, nV]
  by_cases e : q = j
  · subst e; rw [if_pos rfl, if_pos (by omega), h]
  · rw [if_neg e]
    by_cases h1 : q < j
    · rw [if_pos h1, if_pos (by omega)]
    · rw [if_neg h1, if_neg (by omega)]
theorem upd_upd (f : Nat → Nat) (j v u : Nat) : updN (updN f j v) j u = updN f j u := by funext q; simp only [updN]; split <;> rfl
theorem nV_all (m : Mch) (k : Nat) : nV m k m.s = cV m (k + 1) := by funext q; rfl
/-- is r taken for q? -/
def okR (m : Mch) (k q r : Nat) : Bool := cV m k q == cV m k r && sameB m (cV m k) q r
theorem okR_eqv {m : Mch} (hok : m.Ok) (hwf : m.Wf) {k q r : Nat} (hq : q < m.s) (hr : r < m.s) : okR m k q r = m.tbl.eqv (k + 1) q r := by
  rw [Bool.eq_iff_iff, okR, Bool.and_eq_true, beq_iff_eq, sameB_eqv hq hr hok hwf (fun q h => cV_lt h), cV_lt hq, cV_lt hr]
  exact ⟨fun h => h.2, fun h => ⟨(m.tbl.cls_iff k q r).1 (m.tbl.eqv_mono k q r h), h⟩⟩
theorem cls_found {m : Mch} (hok : m.Ok) (hwf : m.Wf) {k q r : Nat} (hq : q < m.s) (hr : r < q) (h : okR m k q r = true) (hmin : ∀ s, s < r → okR m k q s = false) : m.tbl.cls (k + 1) q = r := by
  refine lst_eq (by omega) (fun _ => ?_) (fun s hs => ?_)
  · rw [← okR_eqv hok hwf hq (by omega)]; exact h
  · rw [← okR_eqv hok hwf hq (by omega)]; exact hmin s hs
theorem cls_none {m : Mch} (hok : m.Ok) (hwf : m.Wf) {k q : Nat} (hq : q < m.s) (hmin : ∀ s, s < q → okR m k q s = false) : m.tbl.cls (k + 1) q = q := by
  refine lst_eq (by omega) (fun h => by omega) (fun s hs => ?_)
  rw [← okR_eqv hok hwf hq (by omega)]; exact hmin s hs
theorem cls_fix {m : Mch} (hok : m.Ok) (hwf : m.Wf) {k q r : Nat} (hq : q < m.s) (hr : r < q) (h : okR m k q r = true) (hmin : ∀ s, s < r → okR m k q s = false) : m.tbl.cls (k + 1) r = r := by
  have := cls_found hok hwf hq hr h hmin
  rw [← this]; exact m.tbl.cls_cls _ _

theorem zer16 : (#[.int .i64 0, .int .i64 0, .int .i64 0, .int .i64 0, .int .i64 0, .int .i64 0, .int .i64 0, .int .i64 0, .int .i64 0, .int .i64 0, .int .i64 0, .int .i64 0, .int .i64 0, .int .i64 0, .int .i64 0, .int .i64 0] : Array Value).toList = nvs 16 fun _ => 0 := rfl

set_option maxRecDepth 100000 in
set_option maxHeartbeats 4000000 in
theorem l01Classes_any (m : Mch) (hwf : m.Wf) (hok : m.Ok) (w : World) :
    Calls Try.prog 87 #[.agg m.cells.toArray] w (Ret (.agg (nvs 16 (fun q => if q < m.s then m.tbl.fin q else 0)).toArray) w) := by
  have hs16 := hok.s_le
  have hl3 := hok.l_le
  obtain ⟨Z, hZ⟩ : ∃ Z : Array Value, Z = #[.int .i64 0, .int .i64 0, .int .i64 0, .int .i64 0, .int .i64 0, .int .i64 0, .int .i64 0, .int .i64 0, .int .i64 0, .int .i64 0, .int .i64 0, .int .i64 0, .int .i64 0, .int .i64 0, .int .i64 0, .int .i64 0] := ⟨_, rfl⟩
  have hM0 := (((Mm.start w).alloc m.cells.toArray 44).alloc Z 99).alloc Z 99
  rw [show ((w.alloc (.cells m.cells.toArray 44)).alloc (.cells Z 99)).heap.size = w.heap.size + 1 + 1 by simp, show (w.alloc (.cells m.cells.toArray 44)).heap.size = w.heap.size + 1 by simp, List.toList_toArray] at hM0
  rw [hZ, zer16, show (nvs 16 fun _ => 0) = nvs 16 (cV m 0) from nvs_congr fun q _ => by simp only [cV]; rw [Tbl.cls_zero]; split <;> rfl] at hM0
  clear hZ
  go_enter Try.func87, Try.ntmps87
  go_wp2_with fail
  go_loopw [4] (fun i wr => ∃ k : Nat, k ≤ m.s + 1 ∧ i = .int .i64 k ∧ Mm w.heap.size w wr [(w.heap.size + 1 + 1, nvs 16 (cV m k), 99), (w.heap.size + 1, nvs 16 (cV m 0), 99), (w.heap.size, m.cells, 44)] []) (fun i _ => m.s + 1 - (intOf i).toNat)
  case atStart => exact ⟨0, Nat.zero_le _, rfl, hM0⟩
  case round =>
    clear hM0
    obtain ⟨k, hk, rfl, hM⟩ := hrel
    have hcs : wr.cell? ⟨w.heap.size, 1, none⟩ = some (.int .i64 (m.s : Int)) := by rw [← hok.S_eq]; exact (hM.mach 2 rfl).s
    by_cases hklt : k ≤ m.s
    · obtain ⟨wo, rfl⟩ : ∃ wo : World, wo = wr := ⟨_, rfl⟩
      have hX := hM.alloc #[.int .i64 0, .int .i64 0, .int .i64 0, .int .i64 0, .int .i64 0, .int .i64 0, .int .i64 0, .int .i64 0, .int .i64 0, .int .i64 0, .int .i64 0, .int .i64 0, .int .i64 0, .int .i64 0, .int .i64 0, .int .i64 0] 99
      rw [zer16, show (nvs 16 fun _ => 0) = nvs 16 (nV m k 0) from nvs_congr fun q _ => by simp [nV]] at hX
      obtain ⟨E, hE⟩ : ∃ E, E = wo.heap.size := ⟨_, rfl⟩
      rw [← hE] at hX
      clear hM
      go_wp2_with fail
      rw [← hE]
      go_loopw [6] (fun i wi => ∃ q : Nat, q ≤ m.s ∧ i = .int .i64 q ∧ Mm w.heap.size w wi [(E, nvs 16 (nV m k q), 99), (w.heap.size + 1 + 1, nvs 16 (cV m k), 99), (w.heap.size + 1, nvs 16 (cV m 0), 99), (w.heap.size, m.cells, 44)] []) (fun i _ => m.s - (intOf i).toNat)
      case atStart => exact ⟨0, Nat.zero_le _, rfl, hX⟩
      case round =>
        clear hX hcs hE
        obtain ⟨q, hq, rfl, hM⟩ := hrel
        have hcs : wr.cell? ⟨w.heap.size, 1, none⟩ = some (.int .i64 (m.s : Int)) := by rw [← hok.S_eq]; exact (hM.mach 3 rfl).s
        by_cases hqlt : q < m.s
        · have c1 := (hM.at 0 rfl).cell' (nvs_get (nV m k q) (q := q) (by omega))
          have f1 := (hM.at 0 rfl).free q
          have hM1 := hM.setCell 0 rfl q (.int .i64 (q : Int))
          simp only [List.set_cons_zero] at hM1
          rw [nvs_set _ _ (by omega)] at hM1
          have HM1 := Lib.hid hM1
          clear hM hM1
          generalize nV m k q q = old at *
          have i1 : (q : Int) < 16 := by omega
          have i2 : (0 : Int) ≤ (q : Int) := by omega
          go_wp2_with fail
          clear c1 f1
          go_loopw [7] (fun i wi => ∃ r : Nat, r ≤ q ∧ i = .int .i64 r ∧ Mm w.heap.size w wi [(E, nvs 16 (updN (nV m k q) q q), 99), (w.heap.size + 1 + 1, nvs 16 (cV m k), 99), (w.heap.size + 1, nvs 16 (cV m 0), 99), (w.heap.size, m.cells, 44)] [] ∧ Hid (∀ s, s < r → okR m k q s = false)) (fun i _ => q - (intOf i).toNat)
          case atStart => exact ⟨0, Nat.zero_le _, rfl, HM1.out, fun s hs => by omega⟩
          case round =>
            clear HM1 hcs
            obtain ⟨r, hr, rfl, hM, HN⟩ := hrel
            by_cases hrlt : r < q
            · have c1 := (hM.at 1 rfl).cell' (nvs_get (cV m k) (q := q) (by omega))
              have c2 := (hM.at 1 rfl).cell' (nvs_get (cV m k) (q := r) (by omega))
              have i3 : (r : Int) < 16 := by omega
              have i4 : (0 : Int) ≤ (r : Int) := by omega
              have i5 : (r : Int) < (q : Int) := by omega
              have HOK : Hid (okR m k q r = (cV m k q == cV m k r && sameB m (cV m k) q r)) := rfl
              have HNX : Hid (okR m k q r = false → ∀ s, s < r + 1 → okR m k q s = false) := fun h s hs => by
                by_cases e : s = r
                · subst e; exact h
                · exact HN.out s (by omega)
              obtain ⟨a, ha⟩ : ∃ a, a = cV m k q := ⟨_, rfl⟩
              obtain ⟨b, hb⟩ : ∃ b, b = cV m k r := ⟨_, rfl⟩
              rw [← ha] at c1
              rw [← hb] at c2
              rw [← ha, ← hb] at HOK
              by_cases e : a = b
              · have HSM : Hid (∀ W, Calls Try.prog 115 #[.agg m.cells.toArray, .agg (nvs 16 (cV m k)).toArray, .int .i64 q, .int .i64 r] W (Ret (.bool (sameB m (cV m k) q r)) W)) := fun W => l01Same_any m hwf hok (cV m k) q r hqlt (by omega) W
                have HIM := Lib.hid (mach_info hwf)
                have HIC := Lib.hid (nvs16_info (cV m k))
                have hmx : Try.prog.follows .mixedOrders = true := by kernel_rfl
                have HMX := Lib.hid hmx
                have HS : Hid (∀ W, Below wr.heap.size wr W → (W.rangeAt w.heap.size 0 m.cells ∧ W.rangeAt (w.heap.size + 1 + 1) 0 (nvs 16 (cV m k)) ∧ W.cell? ⟨w.heap.size + 1 + 1, q, none⟩ = some (.int .i64 (a : Int)) ∧ W.cell? ⟨w.heap.size + 1 + 1, r, none⟩ = some (.int .i64 (a : Int)))) := fun W hW => by
                  have h := hM.call hW
                  refine ⟨(h.at 3 rfl).all, (h.at 1 rfl).all, ?_, ?_⟩
                  · rw [ha]; exact (h.at 1 rfl).cell' (nvs_get (cV m k) (q := q) (by omega))
                  · rw [e, hb]; exact (h.at 1 rfl).cell' (nvs_get (cV m k) (q := r) (by omega))
                subst e
                clear hmx ha hb c1 c2
                go_wp2_with fail
                refine region_S (fun W => W.rangeAt w.heap.size 0 m.cells ∧ W.rangeAt (w.heap.size + 1 + 1) 0 (nvs 16 (cV m k)) ∧ W.cell? ⟨w.heap.size + 1 + 1, q, none⟩ = some (.int .i64 (a : Int)) ∧ W.cell? ⟨w.heap.size + 1 + 1, r, none⟩ = some (.int .i64 (a : Int))) [] 14 rfl HMX.out (HS.out _ (Below.refl _ wr).drew) (fun hU => ?_)
                obtain ⟨W, hW⟩ : ∃ W, W = wr.drew := ⟨_, rfl⟩
                have hBW : Below wr.heap.size wr W := by rw [hW]; exact (Below.refl _ wr).drew
                rw [← hW] at hU ⊢
                clear hW
                (refine AnyS.take (i := 0) rfl (by kernel_rfl) (by kernel_rfl) (by kernel_rfl) (by rfl) (fun _ _ _ h => h) (by rfl) (by intro w; go_simp; with_reducible rfl) hU (fun hU => ?_); (try simp only [Act.put, List.setIfInBounds_toArray, List.set_cons_zero, List.set_cons_succ]); refine AnyS.take (i := 1) rfl (by kernel_rfl) (by kernel_rfl) (by kernel_rfl) (by rfl) (fun _ _ _ h => h) (by rfl) (by intro w; go_simp; with_reducible rfl) hU (fun hU => ?_); (try simp only [Act.put, List.setIfInBounds_toArray, List.set_cons_zero, List.set_cons_succ]))
                (refine AnyS.takeS (i := 2) rfl (by kernel_rfl) (by kernel_rfl) (by kernel_rfl) (by rfl) (by kernel_rfl) (by kernel_rfl) (fun _ _ _ h => h) (by rfl) (by intro W hSw; have h1 := hSw.2.2.1; clear hSw; go_simp; with_reducible rfl) hU (fun hU => ?_); (try simp only [Act.put, List.setIfInBounds_toArray, List.set_cons_zero, List.set_cons_succ]))
                (refine AnyS.take (i := 3) rfl (by kernel_rfl) (by kernel_rfl) (by kernel_rfl) (by rfl) (fun _ _ _ h => h) (by rfl) (by intro w; go_simp; with_reducible rfl) hU (fun hU => ?_); (try simp only [Act.put, List.setIfInBounds_toArray, List.set_cons_zero, List.set_cons_succ]); refine AnyS.take (i := 4) rfl (by kernel_rfl) (by kernel_rfl) (by kernel_rfl) (by rfl) (fun _ _ _ h => h) (by rfl) (by intro w; go_simp; with_reducible rfl) hU (fun hU => ?_); (try simp only [Act.put, List.setIfInBounds_toArray, List.set_cons_zero, List.set_cons_succ]))
                (refine AnyS.takeS (i := 5) rfl (by kernel_rfl) (by kernel_rfl) (by kernel_rfl) (by rfl) (by kernel_rfl) (by kernel_rfl) (fun _ _ _ h => h) (by rfl) (by intro W hSw; have h1 := hSw.2.2.2; clear hSw; go_simp; with_reducible rfl) hU (fun hU => ?_); (try simp only [Act.put, List.setIfInBounds_toArray, List.set_cons_zero, List.set_cons_succ]))
                (refine AnyS.take (i := 6) rfl (by kernel_rfl) (by kernel_rfl) (by kernel_rfl) (by rfl) (fun _ _ _ h => h) (by rfl) (by intro w; go_simp; with_reducible rfl) hU (fun hU => ?_); (try simp only [Act.put, List.setIfInBounds_toArray, List.set_cons_zero, List.set_cons_succ]); refine AnyS.take (i := 7) rfl (by kernel_rfl) (by kernel_rfl) (by kernel_rfl) (by rfl) (fun _ _ _ h => h) (by rfl) (by intro w; go_simp; with_reducible rfl) hU (fun hU => ?_); (try simp only [Act.put, List.setIfInBounds_toArray, List.set_cons_zero, List.set_cons_succ]))
                (refine AnyS.takeS (i := 8) rfl (by kernel_rfl) (by kernel_rfl) (by kernel_rfl) (by rfl) (by kernel_rfl) (by kernel_rfl) (fun _ _ _ h => h) (by rfl) (fun W hW => run_ld Try.underlying44 rfl HIM.out (.tmp 1) rfl rfl hW.1) hU (fun hU => ?_); (try simp only [Act.put, List.setIfInBounds_toArray, List.set_cons_zero, List.set_cons_succ]))
                (refine AnyS.takeS (i := 9) rfl (by kernel_rfl) (by kernel_rfl) (by kernel_rfl) (by rfl) (by kernel_rfl) (by kernel_rfl) (fun _ _ _ h => h) (by rfl) (fun W hW => run_ld Try.underlying99 rfl HIC.out (.tmp 3) rfl rfl hW.2.1) hU (fun hU => ?_); (try simp only [Act.put, List.setIfInBounds_toArray, List.set_cons_zero, List.set_cons_succ]))
                (refine AnyS.take (i := 10) rfl (by kernel_rfl) (by kernel_rfl) (by kernel_rfl) (by rfl) (fun _ _ _ h => h) (by rfl) (by intro w; go_simp; with_reducible rfl) hU (fun hU => ?_); (try simp only [Act.put, List.setIfInBounds_toArray, List.set_cons_zero, List.set_cons_succ]); refine AnyS.take (i := 11) rfl (by kernel_rfl) (by kernel_rfl) (by kernel_rfl) (by rfl) (fun _ _ _ h => h) (by rfl) (by intro w; go_simp; with_reducible rfl) hU (fun hU => ?_); (try simp only [Act.put, List.setIfInBounds_toArray, List.set_cons_zero, List.set_cons_succ]))
                refine AnyS.branch (rs := [12]) (by kernel_rfl) (by simp) (AllS.cons rfl (fun K hK => ?_) AllS.nil)
                go_simp
                refine (HSM.out _).mono ?_
                rintro e w4 ⟨rfl, hb4⟩
                have hB4 := hBW.trans (hb4.mono hBW.size)
                refine hK.out _ _ (.inl (HS.out _ hB4)) (fun hU => ?_)
                clear hK K hBW
                (try simp only [Act.put, List.setIfInBounds_toArray, List.set_cons_zero, List.set_cons_succ])
                have hM4 := hM.call hB4
                clear hM hb4
                cases hs : sameB m (cV m k) q r
                · (refine AnyS.take (i := 13) rfl (by kernel_rfl) (by kernel_rfl) (by kernel_rfl) (by rfl) (fun _ _ _ h => h) (by rfl) (by intro w; go_simp; with_reducible rfl) hU (fun hU => ?_); (try simp only [Act.put, List.setIfInBounds_toArray, List.set_cons_zero, List.set_cons_succ]))
                  refine AnyS.done (by kernel_rfl) ?_ _
                  have HX := Lib.hid (HNX.out (by rw [HOK.out, hs]; simp))
                  clear hU hB4 hs
                  go_wp2_with fail
                  go_roundw
                  case rel => exact ⟨r + 1, by omega, by go_num, hM4, HX.out⟩
                  case measure => simp [intOf] <;> omega
                · (refine AnyS.take (i := 13) rfl (by kernel_rfl) (by kernel_rfl) (by kernel_rfl) (by rfl) (fun _ _ _ h => h) (by rfl) (by intro w; go_simp; with_reducible rfl) hU (fun hU => ?_); (try simp only [Act.put, List.setIfInBounds_toArray, List.set_cons_zero, List.set_cons_succ]))
                  refine AnyS.done (by kernel_rfl) ?_ _
                  have hokr : okR m k q r = true := by rw [HOK.out, hs]; simp
                  have hcr : updN (nV m k q) q q r = r := by
                    simp only [updN, nV]
                    rw [if_neg (by omega), if_pos hrlt]
                    exact cls_fix hok hwf hqlt hrlt hokr HN.out
                  have c3 := (hM4.at 0 rfl).cell' (nvs_get (updN (nV m k q) q q) (q := r) (by omega))
                  rw [hcr] at c3
                  have c4 := (hM4.at 0 rfl).cell' (nvs_get (updN (nV m k q) q q) (q := q) (by omega))
                  have f4 := (hM4.at 0 rfl).free q
                  have hM5 := hM4.setCell 0 rfl q (.int .i64 (r : Int))
                  simp only [List.set_cons_zero] at hM5
                  rw [nvs_set _ _ (by omega), upd_upd, nV_upd m k q r (cls_found hok hwf hqlt hrlt hokr HN.out)] at hM5
                  have HM5 := Lib.hid hM5
                  clear hU hB4 hs hokr hcr hM4 hM5
                  generalize updN (nV m k q) q q q = old2 at *
                  go_wp2_with fail
                  go_roundw
                  case rel => exact ⟨q + 1, by omega, by go_num, HM5.out⟩
                  case measure => simp [intOf] <;> omega
              · have HX := Lib.hid (HNX.out (by rw [HOK.out]; simp [e]))
                have e' : ((a : Int) == (b : Int)) = false := by simp; omega
                clear ha hb e
                go_wp2_with fail
                go_quiet (fail)
                go_wp2_with fail
                go_roundw
                case rel => exact ⟨r + 1, by omega, by go_num, hM.drewN _, HX.out⟩
                case measure => simp [intOf] <;> omega
            · have hr' : r = q := by omega
              subst hr'
              rw [nV_upd m k r r (cls_none hok hwf hqlt HN.out)] at hM
              go_wp2_with fail
              go_roundw
              case rel => exact ⟨r + 1, by omega, by go_num, hM⟩
              case measure => simp [intOf] <;> omega
        · have hq' : q = m.s := by omega
          subst hq'
          rw [nV_all] at hM
          have hr0 := (hM.at 0 rfl).all
          have ht0 := (hM.at 1 rfl).there 0 (nvs 16 (cV m (k + 1))).length (by simp [nvs_len])
          have hM5 := (hM.setAll 1 rfl (vs := nvs 16 (cV m (k + 1))) (by simp [nvs_len])).sub (List.sublist_cons_self _ _)
          have HM5 := Lib.hid hM5
          have HIC := Lib.hid (nvs16_info (cV m (k + 1)))
          have H1 := Lib.hid (nvs_one 16 (cV m (k + 1)))
          clear hM hM5
          obtain ⟨C, hC⟩ : ∃ C, C = nvs 16 (cV m (k + 1)) := ⟨_, rfl⟩
          rw [← hC] at hr0 ht0 HIC H1 HM5
          have HC := Lib.hid hC
          clear hC
          go_wp2_with (first | ((with_reducible refine ld_row ?_ 99 (.tmp 5) ?_ E 0 ?_ C (.array 16 2) hr0 Try.underlying99 ?_ HIC.out ?_); exact rfl; exact rfl; exact rfl; exact rfl) | ((with_reducible refine st_row ?_ 99 (.tmp 3) (.tmp 49) ?_ (w.heap.size + 1 + 1) 0 C ?_ ?_ ht0 HIC.out H1.out ?_); exact rfl; exact rfl; exact rfl; exact rfl))
          go_roundw
          case rel => exact ⟨k + 1, by omega, by go_num, by rw [← HC.out]; exact HM5.out⟩
          case measure => simp [intOf] <;> omega
    · have hk' : k = m.s + 1 := by omega
      subst hk'
      have HF : Hid (nvs 16 (cV m (m.s + 1)) = nvs 16 (fun q => if q < m.s then m.tbl.fin q else 0)) := nvs_congr fun q _ => by
        simp only [cV]
        by_cases h : q < m.s
        · rw [if_pos h, if_pos h]; exact m.tbl.fin_late (m.tbl_wf hok hwf) hok.s_pos (by show m.s ≤ _; omega) h
        · rw [if_neg h, if_neg h]
      rw [HF.out] at hM
      clear HF
      have hr0 := (hM.at 0 rfl).all
      have ht0 := (hM.at 1 rfl).there 0 (nvs 16 (fun q => if q < m.s then m.tbl.fin q else 0)).length (by simp [nvs_len])
      have hM5 := hM.setAll 1 rfl (vs := nvs 16 (fun q => if q < m.s then m.tbl.fin q else 0)) (by simp [nvs_len])
      have HIC := Lib.hid (nvs16_info (fun q => if q < m.s then m.tbl.fin q else 0))
      have H1 := Lib.hid (nvs_one 16 (fun q => if q < m.s then m.tbl.fin q else 0))
      have hres := hM5.at 1 rfl
      have hbl := hM5.below
      clear hM hM5
      obtain ⟨C, hC⟩ : ∃ C, C = nvs 16 (fun q => if q < m.s then m.tbl.fin q else 0) := ⟨_, rfl⟩
      rw [← hC] at hr0 ht0 HIC H1 hres hbl
      have HC := Lib.hid hC
      clear hC
      go_wp2_with (first | ((with_reducible refine ld_row ?_ 99 (.tmp 3) ?_ (w.heap.size + 1 + 1) 0 ?_ C (.array 16 2) hr0 Try.underlying99 ?_ HIC.out ?_); exact rfl; exact rfl; exact rfl; exact rfl) | ((with_reducible refine st_row ?_ 99 (.tmp 2) (.tmp 50) ?_ (w.heap.size + 1) 0 C ?_ ?_ ht0 HIC.out H1.out ?_); exact rfl; exact rfl; exact rfl; exact rfl))
      exact bodyPost_ret (v := .agg C.toArray) (results_cell_row Try.results87 _ _ (w.heap.size + 1) 99 C.toArray (0, 0) (.array 16 2) rfl hres Try.underlying99 rfl (HIC.out.trans (by rw [List.size_toArray]))) rfl ⟨congrArg (fun x : List Value => Ending.returned (.agg x.toArray)) HC.out, hbl⟩
end Go.Proofs.Ytmacnofkpdikiaa
