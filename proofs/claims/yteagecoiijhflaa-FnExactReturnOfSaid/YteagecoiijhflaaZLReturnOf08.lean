import Derived.Test.YteagecoiijhflaaZLReturnOf07
import Derived.Test.YteagecoiijhflaaZLReturnOf06
import Derived.Deep.LoopGhost
import Derived.Test.YteagecoiijhflaaZLReturnOf04
/- Equal states of the program: (*table).least. -/
namespace Go.Proofs.Yteagecoiijhflaa
open Go.RowKit
set_option linter.unusedVariables false
set_option linter.unusedSimpArgs false

/-- a table for reading -/
def TabG (w : World) (T : Nat) (t : Tbl) : Prop := ∃ gN cN gO cO, w.cell? ⟨T, 0, none⟩ = some (.slice (some ⟨gN, 0, none⟩) t.n cN) ∧ w.cell? ⟨T, 1, none⟩ = some (.slice (some ⟨gO, 0, none⟩) t.n cO) ∧
  (∀ q, q < t.n → ∃ g c, w.cell? ⟨gN, q, none⟩ = some (.slice (some ⟨g, 0, none⟩) t.d c) ∧ ∀ x, x < t.d → w.cell? ⟨g, x, none⟩ = some (.int .i64 (t.nx q x))) ∧
  (∀ q, q < t.n → ∃ g c, w.cell? ⟨gO, q, none⟩ = some (.slice (some ⟨g, 0, none⟩) t.d c) ∧ ∀ x, x < t.d → w.cell? ⟨g, x, none⟩ = some (.int .i64 (t.ot q x)))
theorem TabR.gen {w : World} {T : Nat} {m : Mch} (h : TabR w T m) : TabG w T m.tbl := h
theorem TabG.keep {w w' : World} {T : Nat} {t : Tbl} (h : TabG w T t) (hb : Below w.heap.size w w') : TabG w' T t := by
  have K : ∀ (a : Addr) (v : Value), w.cell? a = some v → w'.cell? a = some v := fun a v h => (hb.cell (World.block_lt_of_cell? w a h)).trans h
  obtain ⟨gN, cN, gO, cO, h1, h2, h3, h4⟩ := h
  refine ⟨gN, cN, gO, cO, K _ _ h1, K _ _ h2, fun q hq => ?_, fun q hq => ?_⟩
  · obtain ⟨g, c, e, f⟩ := h3 q hq; exact ⟨g, c, K _ _ e, fun x hx => K _ _ (f x hx)⟩
  · obtain ⟨g, c, e, f⟩ := h4 q hq; exact ⟨g, c, K _ _ e, fun x hx => K _ _ (f x hx)⟩
theorem TabG.lt {w : World} {T : Nat} {t : Tbl} (h : TabG w T t) : T < w.heap.size := by
  obtain ⟨gN, cN, gO, cO, h1, h2, h3, h4⟩ := h
  exact World.block_lt_of_cell? w _ h1

set_option maxHeartbeats 1000000 in
theorem slEqI_any (a b : Option Addr) (c d : Nat) (xs ys : List Int) (hx : xs.length ≤ 1000000) (w : World) (ha : IntsAt w a xs) (hb : IntsAt w b ys) :
    Calls Try.prog 135 #[.slice a xs.length c, .slice b ys.length d] w (RetQ (.bool (decide (xs = ys))) w) := by
  have HA := Lib.hid ha
  have HB := Lib.hid hb
  clear ha hb
  go_enter Try.func135, Try.ntmps135
  by_cases hl : xs.length = ys.length
  · have hle : ((xs.length : Int) == (ys.length : Int)) = true := by simp; omega
    have hln : ((xs.length : Int) != (ys.length : Int)) = false := by simp; omega
    go_wp2_with fail
    go_loopw [13] (fun i wr => ∃ k : Nat, k ≤ xs.length ∧ i = .int .i64 k ∧ Hid (∃ n, wr = w.drewN n) ∧ Hid (∀ j, j < k → xs[j]? = ys[j]?)) (fun i _ => xs.length - (intOf i).toNat)
    case atStart => exact ⟨0, Nat.zero_le _, rfl, ⟨0, rfl⟩, fun j hj => by omega⟩
    case round =>
      obtain ⟨k, hk, rfl, HW, HE⟩ := hrel
      by_cases hlt : k < xs.length
      · obtain ⟨g, off, rfl, hc⟩ := HA.out k hlt
        obtain ⟨g', off', rfl, hc'⟩ := HB.out k (by omega)
        have hcell : ∀ a, wr.cell? a = w.cell? a := fun a => by obtain ⟨n, hn⟩ := HW.out; rw [hn]; rfl
        rw [← hcell] at hc hc'
        clear hcell
        have i1 : (0 : Int) ≤ (k : Int) := by omega
        have i2 : (k : Int) < (xs.length : Int) := by omega
        have i3 : (k : Int) < (ys.length : Int) := by omega
        have i4 : k < ys.length := by omega
        obtain ⟨x, hx⟩ : ∃ x, x = xs[k]?.getD 0 := ⟨_, rfl⟩
        obtain ⟨y, hy⟩ : ∃ y, y = ys[k]?.getD 0 := ⟨_, rfl⟩
        rw [← hx] at hc
        rw [← hy] at hc'
        by_cases e : x = y
        · have HN : Hid (∀ j, j < k + 1 → xs[j]? = ys[j]?) := fun j hj => by
            by_cases h : j = k
            · subst h
              rw [List.getElem?_eq_getElem hlt, List.getElem?_eq_getElem i4] at *
              simp only [Option.getD_some] at hx hy
              rw [← hx, ← hy, e]
            · exact HE.out j (by omega)
          subst e
          clear hx hy
          go_wp2_with fail
          go_quiet (fail)
          go_wp2_with fail
          go_roundw
          case rel => exact ⟨k + 1, by omega, by go_num, by obtain ⟨n, hn⟩ := HW.out; rw [hn]; exact dN2 _ _ _, HN⟩
          case measure => simp [intOf] <;> omega
        · have H : Hid (decide (xs = ys) = false) := by
            show _ = _
            simp only [decide_eq_false_iff_not]; intro h; rw [h] at hx; exact e (hx.trans hy.symm)
          have e' : (x != y) = true := by simpa using e
          clear e hx hy
          go_wp2_with fail
          go_quiet (fail)
          go_wp2_with fail
          go_ret
          exact ⟨ret_bool H.out.symm, by obtain ⟨n, hn⟩ := HW.out; rw [hn]; exact dN2 _ _ _⟩
      · have H : Hid (decide (xs = ys) = true) := by
          show _ = _
          simp only [decide_eq_true_eq]
          apply List.ext_getElem?
          intro j
          by_cases hj : j < k
          · exact HE.out j hj
          · rw [List.getElem?_eq_none (by omega), List.getElem?_eq_none (by omega)]
        go_wp2_with fail
        go_ret
        exact ⟨ret_bool H.out.symm, HW.out⟩
  · have H : Hid (decide (xs = ys) = false) := by
      show _ = _
      simp only [decide_eq_false_iff_not]; intro e; rw [e] at hl; exact hl rfl
    have hle : ((xs.length : Int) == (ys.length : Int)) = false := by simp; omega
    have hln : ((xs.length : Int) != (ys.length : Int)) = true := by simp; omega
    clear hl
    go_wp2_with fail
    go_ret
    exact ⟨ret_bool H.out.symm, 0, rfl⟩

/-- the outputs of a state -/
def rowL (t : Tbl) (q : Nat) : List Int := (List.range t.d).map fun x => (t.ot q x : Int)
theorem rowL_len (t : Tbl) (q : Nat) : (rowL t q).length = t.d := by simp [rowL]
theorem rowL_get (t : Tbl) (q : Nat) {x : Nat} (h : x < t.d) : (rowL t q)[x]?.getD 0 = (t.ot q x : Int) := by simp [rowL, h]
theorem rowL_eqv (t : Tbl) (q r : Nat) : decide (rowL t r = rowL t q) = t.eqv 1 q r := by
  rw [Bool.eq_iff_iff, decide_eq_true_eq, Tbl.eqv_succ]
  constructor
  · intro h x hx
    refine ⟨?_, rfl⟩
    have := congrArg (fun l : List Int => l[x]?.getD 0) h
    simp only [rowL_get t _ hx] at this
    omega
  · intro h
    apply List.map_congr_left
    intro x hx
    have := (h x (by simpa using hx)).1
    omega

theorem enters_least1 : Enters 134 := fun args w => by kernel_rfl
set_option maxRecDepth 100000 in
set_option maxHeartbeats 1000000 in
theorem least1_any (t : Tbl) (hn : t.n ≤ 1000) (hd : t.d ≤ 100) (T p1 p4 : Nat) (g c r q : Nat) (hq : q < t.n) (w : World) (hT : TabG w T t) (h1 : w.cell? ⟨p1, 0, none⟩ = some (.pointer (some ⟨T, 0, none⟩))) (h4 : w.cell? ⟨p4, 0, none⟩ = some (.int .i64 q))
    (hrow : ∀ x, x < t.d → w.cell? ⟨g, x, none⟩ = some (.int .i64 (t.ot r x))) :
    Calls Try.prog 134 #[.slice (some ⟨g, 0, none⟩) t.d c, .pointer (some ⟨p1, 0, none⟩), .pointer (some ⟨p4, 0, none⟩)] w (RetQ (.bool (t.eqv 1 q r)) w) := by
  obtain ⟨gN, cN, gO, cO, t1, t2, t3, t4⟩ := hT
  obtain ⟨g', c', e, f⟩ := t4 q hq
  have HEQ : Hid (∀ n, Calls Try.prog 135 #[.slice (some ⟨g, 0, none⟩) t.d c, .slice (some ⟨g', 0, none⟩) t.d c'] (w.drewN n) (RetQ (.bool (t.eqv 1 q r)) (w.drewN n))) := fun n => by
    have := slEqI_any (some ⟨g, 0, none⟩) (some ⟨g', 0, none⟩) c c' (rowL t r) (rowL t q) (by rw [rowL_len]; omega) (w.drewN n)
      (fun i hi => ⟨g, 0, rfl, by rw [rowL_len] at hi; rw [rowL_get t _ hi, Nat.zero_add]; exact hrow i hi⟩) (fun i hi => ⟨g', 0, rfl, by rw [rowL_len] at hi; rw [rowL_get t _ hi, Nat.zero_add]; exact f i hi⟩)
    rw [rowL_len, rowL_len, rowL_eqv] at this
    exact this
  have i1 : (0 : Int) ≤ (q : Int) := by omega
  have i2 : (q : Int) < (t.n : Int) := by omega
  clear t3 t4 f hrow t1
  go_enter Try.func134, Try.ntmps134
  go_wp2_with fail
  go_quiet ((go_at_call 135; exact Calls.quiet_of (HEQ.out _)))
  go_wp2_with fail
  go_ret
  exact ⟨rfl, _, rfl⟩

/-- the first number below n that p lets in, or -1 -/
def idxN (p : Nat → Bool) (n : Nat) : Int := match (List.range n).find? p with | some i => (i : Int) | none => -1
theorem idxN_hit {p : Nat → Bool} {n k : Nat} (hk : k < n) (h1 : p k = true) (h2 : ∀ j, j < k → p j = false) : idxN p n = k := by
  have : (List.range n).find? p = some k := by
    rw [List.find?_range_eq_some]
    exact ⟨h1, by simpa using hk, fun j hj => by rw [h2 j hj]; rfl⟩
  rw [idxN, this]
theorem idxN_none {p : Nat → Bool} {n : Nat} (h : ∀ j, j < n → p j = false) : idxN p n = -1 := by
  have : (List.range n).find? p = none := by
    rw [List.find?_eq_none]
    intro x hx
    rw [h x (by simpa using hx)]; decide
  rw [idxN, this]

set_option maxRecDepth 100000 in
set_option maxHeartbeats 1000000 in
theorem indexFuncII_any (k : Nat) (hent : Enters k) (cap : Array Value) (g n c : Nat) (hn : n ≤ 1000000) (rv : Nat → Value) (p : Nat → Bool) (w : World)
    (hc : ∀ i, i < n → w.cell? ⟨g, i, none⟩ = some (rv i)) (hf : ∀ j i, i < n → Calls Try.prog k (#[rv i] ++ cap) (w.drewN j) (RetQ (.bool (p i)) (w.drewN j))) :
    Calls Try.prog 125 #[.slice (some ⟨g, 0, none⟩) n c, .func (.func k) #[] cap] w (RetQ (.int .i64 (idxN p n)) w) := by
  have hent' : ∀ args w, Sem.run Try.prog (callFunc k args) w = .ok (.enter k args) w := hent
  have HC := Lib.hid hc
  have HF := Lib.hid hf
  clear hc hf hent
  go_enter Try.func125, Try.ntmps125
  go_wp2_with fail
  go_loopw [8] (fun i wr => ∃ j : Nat, j ≤ n ∧ i = .int .i64 j ∧ Hid (∃ m, wr = w.drewN m) ∧ Hid (∀ i, i < j → p i = false)) (fun i _ => n - (intOf i).toNat)
  case atStart => exact ⟨0, Nat.zero_le _, rfl, ⟨0, rfl⟩, fun i hi => by omega⟩
  case round =>
    obtain ⟨j, hj, rfl, HW, HI⟩ := hrel
    by_cases hlt : j < n
    · have hcell := HC.out j hlt
      have hcw : wr.cell? ⟨g, j, none⟩ = w.cell? ⟨g, j, none⟩ := by obtain ⟨n, hn⟩ := HW.out; rw [hn]; rfl
      rw [← hcw] at hcell
      have i1 : (j : Int) < (n : Int) := by omega
      have i2 : (0 : Int) ≤ (j : Int) := by omega
      have hcall : Hid (Calls Try.prog k (#[rv j] ++ cap) wr (RetQ (.bool (p j)) wr)) := by
        obtain ⟨n, hn⟩ := HW.out; rw [hn]; exact HF.out n j hlt
      generalize rv j = v at *
      clear hcw
      go_wp2_with fail
      refine hcall.out.mono ?_
      rintro e w1 ⟨rfl, HW1⟩
      have HW2 : Hid (∃ m, w1 = w.drewN m) := by obtain ⟨a, ha⟩ := HW1; obtain ⟨b, hb⟩ := HW.out; rw [ha, hb]; exact dN2 _ _ _
      clear HW1 hcall hcell
      cases hp : p j
      · have HJ : Hid (∀ i, i < j + 1 → p i = false) := fun i hi => by
          by_cases e : i = j
          · subst e; exact hp
          · exact HI.out i (by omega)
        clear hp
        go_wp2_with fail
        go_roundw
        case rel => exact ⟨j + 1, by omega, by go_num, HW2, HJ⟩
        case measure => simp [intOf] <;> omega
      · have HJ := Lib.hid (idxN_hit hlt hp HI.out)
        clear hp
        go_wp2_with fail
        go_ret
        exact ⟨ret_int HJ.out.symm, HW2.out⟩
    · have HJ := Lib.hid (idxN_none (p := p) (n := n) (fun i hi => HI.out i (by omega)))
      have hj' : ¬ (j : Int) < n := by omega
      go_wp2_with fail
      go_ret
      exact ⟨ret_int HJ.out.symm, HW.out⟩
end Go.Proofs.Yteagecoiijhflaa

/- (*table).like, (*table).least. -/
namespace Go.Proofs.Yteagecoiijhflaa
open Go.RowKit
set_option linter.unusedVariables false
set_option linter.unusedSimpArgs false

def okL (t : Tbl) (c : Nat → Nat) (q r : Nat) : Bool := c r == c q && (List.range t.d).all fun x => c (t.nx q x) == c (t.nx r x)
theorem okL_eqv {t : Tbl} (hw : t.Wf) {k : Nat} (hk : 1 ≤ k) {c : Nat → Nat} (hc : ∀ q, q < t.n → c q = t.cls k q) {q r : Nat} (hq : q < t.n) (hr : r < t.n) : okL t c q r = t.eqv (k + 1) q r := by
  rw [Bool.eq_iff_iff, Tbl.eqv_succ]
  simp only [okL, Bool.and_eq_true, beq_iff_eq, List.all_eq_true, List.mem_range]
  rw [hc q hq, hc r hr]
  constructor
  · rintro ⟨h1, h2⟩ x hx
    have e := h2 x hx
    rw [hc _ (hw q x hq hx), hc _ (hw r x hr hx)] at e
    refine ⟨?_, (t.cls_iff k _ _).2 e⟩
    obtain ⟨j, rfl⟩ : ∃ j, k = j + 1 := ⟨k - 1, by omega⟩
    exact ((t.eqv_succ j q r).1 ((t.cls_iff (j + 1) q r).2 h1.symm) x hx).1
  · intro h
    have h' : t.eqv (k + 1) q r = true := (t.eqv_succ k q r).2 h
    refine ⟨((t.cls_iff k q r).1 (t.eqv_mono k q r h')).symm, fun x hx => ?_⟩
    rw [hc _ (hw q x hq hx), hc _ (hw r x hr hx)]
    exact (t.cls_iff k _ _).1 (h x hx).2
theorem okL_low {t : Tbl} {k : Nat} {c : Nat → Nat} (hc : ∀ q, q < t.n → c q = t.cls k q) {q s : Nat} (hq : q < t.n) (hs : s < c q) : t.eqv (k + 1) q s = false := by
  rw [hc q hq] at hs
  have := lst_min hs
  cases e : t.eqv (k + 1) q s
  · rfl
  · rw [t.eqv_mono k q s e] at this; cases this

set_option maxRecDepth 100000 in
set_option maxHeartbeats 4000000 in
theorem like_any (t : Tbl) (hw : t.Wf) (hn : t.n ≤ 1000) (hd : t.d ≤ 100) (T : Nat) (k : Nat) (hk : 1 ≤ k) (c : Nat → Nat) (hc : ∀ q, q < t.n → c q = t.cls k q) (g : Nat) (q : Nat) (hq : q < t.n) (w : World) (hT : TabG w T t)
    (hB : ∀ q, q < t.n → w.cell? ⟨g, q, none⟩ = some (.int .i64 (c q))) :
    Calls Try.prog 136 #[.pointer (some ⟨T, 0, none⟩), .slice (some ⟨g, 0, none⟩) t.n t.n, .int .i64 q] w (RetQ (.int .i64 (t.cls (k + 1) q)) w) := by
  obtain ⟨gN, cN, gO, cO, t1, t2, t3, t4⟩ := hT
  have hcq : c q ≤ q := by rw [hc q hq]; exact t.cls_le k q
  have e1 := hB q hq
  have HB := Lib.hid hB
  have H3 := Lib.hid t3
  have HC := Lib.hid hc
  have HW := Lib.hid hw
  have i1 : (0 : Int) ≤ (q : Int) := by omega
  have i2 : (q : Int) < (t.n : Int) := by omega
  obtain ⟨a, ha⟩ : ∃ a, a = c q := ⟨_, rfl⟩
  rw [← ha] at e1 hcq
  have HA := Lib.hid ha
  clear t2 t3 t4 hB hc hw ha
  go_enter Try.func136, Try.ntmps136
  go_wp2_with fail
  clear e1
  go_loopw [7] (fun i wr => ∃ r : Nat, a ≤ r ∧ r ≤ q ∧ i = .int .i64 r ∧ Hid (∃ m, wr = w.drewN m) ∧ Hid (∀ s, s < r → t.eqv (k + 1) q s = false)) (fun i _ => q - (intOf i).toNat)
  case atStart => exact ⟨a, Nat.le_refl _, hcq, rfl, ⟨0, rfl⟩, fun s hs => okL_low HC.out hq (by rw [← HA.out]; exact hs)⟩
  case round =>
    obtain ⟨r, har, hr, rfl, HD, HN⟩ := hrel
    by_cases hlt : r < q
    · have hcell : ∀ a, wr.cell? a = w.cell? a := fun a => by obtain ⟨n, hn⟩ := HD.out; rw [hn]; rfl
      have HCELL := Lib.hid hcell
      clear hcell
      have b1 := (HCELL.out _).trans (HB.out q hq)
      have b2 := (HCELL.out _).trans (HB.out r (by omega))
      have HOK : Hid (okL t c q r = t.eqv (k + 1) q r) := okL_eqv HW.out hk HC.out hq (by omega)
      have HNX : Hid (t.eqv (k + 1) q r = false → ∀ s, s < r + 1 → t.eqv (k + 1) q s = false) := fun h s hs => by
        by_cases e : s = r
        · subst e; exact h
        · exact HN.out s (by omega)
      have HOD : Hid (okL t c q r = (c r == c q && (List.range t.d).all fun x => c (t.nx q x) == c (t.nx r x))) := rfl
      have j1 : (0 : Int) ≤ (r : Int) := by omega
      have j2 : (r : Int) < (t.n : Int) := by omega
      have j3 : (r : Int) < (q : Int) := by omega
      obtain ⟨u, hu⟩ : ∃ u, u = c q := ⟨_, rfl⟩
      obtain ⟨v, hv⟩ : ∃ v, v = c r := ⟨_, rfl⟩
      rw [← hu] at b1 HOD
      rw [← hv] at b2 HOD
      by_cases e : v = u
      · have HV := Lib.hid hv
        subst e
        clear hu hv
        obtain ⟨gq, cq, f1, f2⟩ := H3.out q hq
        obtain ⟨gr, cr, f3, f4⟩ := H3.out r (by omega)
        have HF2 := Lib.hid f2
        have HF4 := Lib.hid f4
        have d1 := (HCELL.out _).trans t1
        have d2 := (HCELL.out _).trans f1
        have d3 := (HCELL.out _).trans f3
        clear f2 f4
        go_wp2_with fail
        go_quiet (fail)
        go_wp2_with fail
        clear b1 b2
        go_loopw [8, 37] (fun s8 i wi => ∃ x : Nat, x ≤ t.d ∧ i = .int .i64 x ∧ s8 = .bool ((List.range x).all fun x => c (t.nx q x) == c (t.nx r x)) ∧ Hid (∃ m, wi = w.drewN m)) (fun _ i _ => t.d - (intOf i).toNat)
        case atStart => exact ⟨0, Nat.zero_le _, rfl, rfl, by obtain ⟨n, hn⟩ := HD.out; rw [hn]; exact dN2 _ _ _⟩
        case round =>
          clear d1 d2 d3
          obtain ⟨x, hx, rfl, rfl, HDi⟩ := hrel
          have hcell : ∀ a, wr.cell? a = w.cell? a := fun a => by obtain ⟨n, hn⟩ := HDi.out; rw [hn]; rfl
          have HCELL := Lib.hid hcell
          clear hcell
          by_cases hxlt : x < t.d
          · have d1 := (HCELL.out _).trans t1
            have d2 := (HCELL.out _).trans (HF2.out x hxlt)
            have d3 := (HCELL.out _).trans f3
            have d4 := (HCELL.out _).trans (HF4.out x hxlt)
            have n1 := HW.out q x hq hxlt
            have n2 := HW.out r x (by omega) hxlt
            have d5 := (HCELL.out _).trans (HB.out _ n1)
            have d6 := (HCELL.out _).trans (HB.out _ n2)
            have HX := Lib.hid (allUpto_succ (fun x => c (t.nx q x) == c (t.nx r x)) x)
            have k1 : (0 : Int) ≤ (x : Int) := by omega
            have k2 : (x : Int) < (t.d : Int) := by omega
            generalize t.nx q x = z1 at *
            generalize t.nx r x = z2 at *
            have k3 : (0 : Int) ≤ (z1 : Int) := by omega
            have k4 : (z1 : Int) < (t.n : Int) := by omega
            have k5 : (0 : Int) ≤ (z2 : Int) := by omega
            have k6 : (z2 : Int) < (t.n : Int) := by omega
            generalize c z1 = y1 at *
            generalize c z2 = y2 at *
            cases hs : (List.range x).all fun x => c (t.nx q x) == c (t.nx r x)
            · rw [hs] at HX
              clear hs
              go_wp2_with fail
              go_quiet (fail)
              go_wp2_with fail
              go_roundw
              case rel => exact ⟨x + 1, by omega, by go_num, by rw [HX.out]; rfl, by obtain ⟨n, hn⟩ := HDi.out; rw [hn]; exact dN2 _ _ _⟩
              case measure => simp [intOf] <;> omega
            · rw [hs] at HX
              clear hs
              have HY : Hid (((y1 : Int) == (y2 : Int)) = (y1 == y2)) := by show _ = _; rw [Bool.eq_iff_iff]; simp; omega
              go_wp2_with fail
              go_quiet (fail)
              go_wp2_with fail
              go_roundw
              case rel => exact ⟨x + 1, by omega, by go_num, by rw [HX.out, HY.out]; simp, by obtain ⟨n, hn⟩ := HDi.out; rw [hn]; exact dN2 _ _ _⟩
              case measure => simp [intOf] <;> omega
          · have hx' : x = t.d := by omega
            subst hx'
            cases hs : (List.range t.d).all fun x => c (t.nx q x) == c (t.nx r x)
            · have HE := Lib.hid (HNX.out (by rw [← HOK.out, HOD.out, hs]; simp))
              clear hs
              go_wp2_with fail
              go_roundw
              case rel => exact ⟨r + 1, by omega, by omega, by go_num, HDi, HE.out⟩
              case measure => simp [intOf] <;> omega
            · have hE : t.eqv (k + 1) q r = true := by rw [← HOK.out, HOD.out, hs]; simp
              have HE : Hid (t.cls (k + 1) q = r) := lst_eq (by omega) (fun _ => hE) HN.out
              clear hs hE
              go_wp2_with fail
              go_ret
              exact ⟨ret_int (by rw [HE.out]), HDi.out⟩
      · have HE := Lib.hid (HNX.out (by rw [← HOK.out, HOD.out]; simp [e]))
        have e' : ((v : Int) != (u : Int)) = true := by simp; omega
        clear hu hv e
        go_wp2_with fail
        go_quiet (fail)
        go_wp2_with fail
        go_roundw
        case rel => exact ⟨r + 1, by omega, by omega, by go_num, by obtain ⟨n, hn⟩ := HD.out; rw [hn]; exact dN2 _ _ _, HE.out⟩
        case measure => simp [intOf] <;> omega
    · have hr' : r = q := by omega
      subst hr'
      have HE : Hid (t.cls (k + 1) r = r) := lst_eq (Nat.le_refl _) (fun h => by omega) HN.out
      go_wp2_with fail
      go_ret
      exact ⟨ret_int (by rw [HE.out]), HD.out⟩
end Go.Proofs.Yteagecoiijhflaa

/- (*table).least. -/
namespace Go.Proofs.Yteagecoiijhflaa
open Go.RowKit
set_option linter.unusedVariables false
set_option linter.unusedSimpArgs false

def finL (t : Tbl) : List Int := (List.range t.n).map fun q => (t.fin q : Int)
theorem finL_len (t : Tbl) : (finL t).length = t.n := by simp [finL]
theorem finL_get (t : Tbl) {q : Nat} (h : q < t.n) : (finL t)[q]?.getD 0 = (t.fin q : Int) := by simp [finL, h]
theorem nvs_i64s (n : Nat) (f : Nat → Nat) : nvs n f = i64s ((List.range n).map fun q => (f q : Int)) := by simp [nvs, i64s]
/-- the first k states done -/
def upV (f : Nat → Nat) (k q : Nat) : Nat := if q < k then f q else 0
theorem upV_set (f : Nat → Nat) (k : Nat) : updN (upV f k) k (f k) = upV f (k + 1) := by
  funext q
  simp only [updN, upV]
  by_cases e : q = k
  · subst e; rw [if_pos rfl, if_pos (by omega)]
  · rw [if_neg e]
    by_cases h : q < k
    · rw [if_pos h, if_pos (by omega)]
    · rw [if_neg h, if_neg (by omega)]
theorem upV_all (f : Nat → Nat) (n : Nat) : nvs n (upV f n) = nvs n f := nvs_congr fun q hq => by simp [upV, hq]
theorem tot_cls_le (t : Tbl) (k n : Nat) : tot (t.cls k) n ≤ n * n := by
  have : ∀ j, j ≤ n → tot (t.cls k) j ≤ j * n := by
    intro j
    induction j with
    | zero => intro _; simp [tot]
    | succ j ih =>
      intro h
      have := ih (by omega)
      have := t.cls_le k j
      simp only [tot]
      rw [Nat.add_mul]; omega
  exact this n (Nat.le_refl _)
theorem tot_le_tot {f g : Nat → Nat} : ∀ n, (∀ q, q < n → f q ≤ g q) → tot f n ≤ tot g n
  | 0, _ => Nat.le_refl _
  | n + 1, h => by have := tot_le_tot n (fun q hq => h q (by omega)); have := h n (by omega); simp only [tot]; omega
theorem tot_lt_tot {f g : Nat → Nat} : ∀ n, (∀ q, q < n → f q ≤ g q) → (∃ q, q < n ∧ f q ≠ g q) → tot f n < tot g n
  | 0, _, ⟨q, hq, _⟩ => by omega
  | n + 1, h, ⟨q, hq, hne⟩ => by
    have h1 := h n (by omega)
    simp only [tot]
    by_cases e : q = n
    · subst e
      have := tot_le_tot q (fun p hp => h p (by omega))
      omega
    · have := tot_lt_tot n (fun p hp => h p (by omega)) ⟨q, by omega, hne⟩
      omega
theorem cls_same {t : Tbl} {k : Nat} (h : ((List.range t.n).all fun i => t.cls (k + 1) i == t.cls k i) = true) : t.St k := fun q hq => by
  rw [List.all_eq_true] at h
  simpa using h q (by simpa using hq)
theorem cls_differ {t : Tbl} {k : Nat} (h : ((List.range t.n).all fun i => t.cls (k + 1) i == t.cls k i) = false) : tot (t.cls k) t.n < tot (t.cls (k + 1)) t.n := by
  rw [List.all_eq_false] at h
  obtain ⟨q, hq, hne⟩ := h
  refine tot_lt_tot t.n (fun q _ => t.cls_mono k q) ⟨q, by simpa using hq, fun e => hne (by simp [e])⟩
theorem cls1_idx (t : Tbl) {q : Nat} (hq : q < t.n) : idxN (t.eqv 1 q) t.n = (t.cls 1 q : Int) :=
  idxN_hit (by have := t.cls_le 1 q; omega) (t.cls_eqv 1 q) (fun j hj => lst_min hj)

set_option maxRecDepth 100000 in
set_option maxHeartbeats 4000000 in
theorem least_any (t : Tbl) (hw : t.Wf) (hn : t.n ≤ 1000) (hd : t.d ≤ 100) (hn1 : 1 ≤ t.n) (T : Nat) (w : World) (hT : TabG w T t) :
    Calls Try.prog 106 #[.pointer (some ⟨T, 0, none⟩)] w fun e w' => ∃ v, e = .returned v ∧ Below w.heap.size w w' ∧ OwnI w' w.heap.size v (finL t) := by
  have hmf : ∀ (fn : Fn) (first cap : Array Value) (w : World), (Instr.makeFunc fn first cap).run Try.prog w = .ok (.func fn first cap) w := fun _ _ _ _ => rfl
  have HT := Lib.hid hT
  have hTw := hT.lt
  obtain ⟨gN, cN, gO, cO, t1, t2, t3, t4⟩ := id hT
  have hM0 := ((Mm.start w).alloc #[.pointer (some ⟨T, 0, none⟩)] 126).alloc (madeCells #[.int .i64 0] t.n) 2
  rw [show (w.alloc (.cells #[.pointer (some ⟨T, 0, none⟩)] 126)).heap.size = w.heap.size + 1 by simp, made_i64, show (nvs t.n fun _ => 0) = nvs t.n (upV (t.cls 1) 0) from nvs_congr fun q _ => by simp [upV]] at hM0
  have hmk := mk_i64 t.n (by omega) (w.alloc (.cells #[.pointer (some ⟨T, 0, none⟩)] 126))
  have T2 := Lib.hid t2
  have T4 := Lib.hid t4
  have hTO : T < w.heap.size := hTw
  clear hT t1 t3 t4
  go_enter Try.func106, Try.ntmps106
  go_wp2_with fail
  clear hmk t2
  go_loopw [19] (fun i wr => ∃ q : Nat, q ≤ t.n ∧ i = .int .i64 q ∧ Mm w.heap.size w wr [(w.heap.size + 1, nvs t.n (upV (t.cls 1) q), 2), (w.heap.size, [.pointer (some ⟨T, 0, none⟩)], 126)] []) (fun i _ => t.n - (intOf i).toNat)
  case atStart => exact ⟨0, Nat.zero_le _, rfl, hM0⟩
  case round =>
    clear hM0
    obtain ⟨q, hq, rfl, hM⟩ := hrel
    by_cases hlt : q < t.n
    · have hMa := hM.alloc #[.int .i64 (q : Int)] 3
      obtain ⟨wa, hwa⟩ : ∃ wa, wa = wr.alloc (.cells #[.int .i64 (q : Int)] 3) := ⟨_, rfl⟩
      obtain ⟨bq, hbq⟩ : ∃ bq, bq = wr.heap.size := ⟨_, rfl⟩
      rw [← hwa, ← hbq] at hMa
      have i1 : (0 : Int) ≤ (q : Int) := by omega
      have i2 : (q : Int) < (t.n : Int) := by omega
      have HS : Hid (∀ W cs, Mm w.heap.size w W [(bq, [.int .i64 (q : Int)], 3), (w.heap.size + 1, cs, 2), (w.heap.size, [.pointer (some ⟨T, 0, none⟩)], 126)] [] → (W.cell? ⟨bq, 0, none⟩ = some (.int .i64 (q : Int)) ∧ W.cell? ⟨w.heap.size, 0, none⟩ = some (.pointer (some ⟨T, 0, none⟩)) ∧ W.cell? ⟨T, 1, none⟩ = some (.slice (some ⟨gO, 0, none⟩) t.n cO))) := fun W cs h =>
        ⟨(h.at 0 rfl).cell' rfl, (h.at 2 rfl).cell' rfl, (h.below.cell (p := ⟨T, 1, none⟩) hTO).trans T2.out⟩
      have HIX : Hid (∀ W cs, Mm w.heap.size w W [(bq, [.int .i64 (q : Int)], 3), (w.heap.size + 1, cs, 2), (w.heap.size, [.pointer (some ⟨T, 0, none⟩)], 126)] [] → Calls Try.prog 125 #[.slice (some ⟨gO, 0, none⟩) t.n cO, .func (.func 134) #[] #[.pointer (some ⟨w.heap.size, 0, none⟩), .pointer (some ⟨bq, 0, none⟩)]] W (RetQ (.int .i64 (t.cls 1 q)) W)) := fun W cs h => by
        have hTW := HT.out.keep h.below
        have := indexFuncII_any 134 enters_least1 #[.pointer (some ⟨w.heap.size, 0, none⟩), .pointer (some ⟨bq, 0, none⟩)] gO t.n cO (by omega) (fun i => (W.cell? ⟨gO, i, none⟩).getD undef) (t.eqv 1 q) W
          (fun i hi => by
            obtain ⟨g, c, e, f⟩ := T4.out i hi
            have e' := (h.below.cell (p := ⟨gO, i, none⟩) (World.block_lt_of_cell? w _ e)).trans e
            rw [e']; rfl)
          (fun j i hi => by
            obtain ⟨g, c, e, f⟩ := T4.out i hi
            have e' := (h.below.cell (p := ⟨gO, i, none⟩) (World.block_lt_of_cell? w _ e)).trans e
            simp only [e', Option.getD_some]
            have hs := HS.out W cs h
            exact least1_any t hn hd T w.heap.size bq g c i q hlt (W.drewN j) hTW hs.2.1 hs.1 (fun x hx => (h.below.cell (p := ⟨g, x, none⟩) (World.block_lt_of_cell? w _ (f x hx))).trans (f x hx)))
        rwa [cls1_idx t hlt] at this
      have hmx : Try.prog.follows .mixedOrders = true := by kernel_rfl
      have HMX := Lib.hid hmx
      have HWA := Lib.hid hwa
      have HBQ := Lib.hid hbq
      clear hmx hM hbq hwa
      go_wp2_with fail
      rw [← HWA.out, ← HBQ.out]
      refine region_S (fun W => W.cell? ⟨bq, 0, none⟩ = some (.int .i64 (q : Int)) ∧ W.cell? ⟨w.heap.size, 0, none⟩ = some (.pointer (some ⟨T, 0, none⟩)) ∧ W.cell? ⟨T, 1, none⟩ = some (.slice (some ⟨gO, 0, none⟩) t.n cO)) [] 10 rfl HMX.out (HS.out _ _ hMa.drew) (fun hU => ?_)
      have hMW := hMa.drew
      obtain ⟨W, hW⟩ : ∃ W, W = wa.drew := ⟨_, rfl⟩
      rw [← hW] at hU hMW ⊢
      clear hW hMa
      (refine AnyS.take (i := 0) rfl (by kernel_rfl) (by kernel_rfl) (by kernel_rfl) (by rfl) (fun _ _ _ h => h) (by rfl) (by intro w; go_simp; with_reducible rfl) hU (fun hU => ?_); (try simp only [Act.put, List.setIfInBounds_toArray, List.set_cons_zero, List.set_cons_succ]))
      (refine AnyS.takeS (i := 1) rfl (by kernel_rfl) (by kernel_rfl) (by kernel_rfl) (by rfl) (by kernel_rfl) (by kernel_rfl) (fun _ _ _ h => h) (by rfl) (by intro W hSw; have h1 := hSw.1; clear hSw; go_simp; with_reducible rfl) hU (fun hU => ?_); (try simp only [Act.put, List.setIfInBounds_toArray, List.set_cons_zero, List.set_cons_succ]))
      (refine AnyS.takeS (i := 2) rfl (by kernel_rfl) (by kernel_rfl) (by kernel_rfl) (by rfl) (by kernel_rfl) (by kernel_rfl) (fun _ _ _ h => h) (by rfl) (by intro W hSw; have h1 := hSw.2.1; clear hSw; go_simp; with_reducible rfl) hU (fun hU => ?_); (try simp only [Act.put, List.setIfInBounds_toArray, List.set_cons_zero, List.set_cons_succ]))
      (refine AnyS.take (i := 3) rfl (by kernel_rfl) (by kernel_rfl) (by kernel_rfl) (by rfl) (fun _ _ _ h => h) (by rfl) (by intro w; go_simp; with_reducible rfl) hU (fun hU => ?_); (try simp only [Act.put, List.setIfInBounds_toArray, List.set_cons_zero, List.set_cons_succ]); refine AnyS.take (i := 4) rfl (by kernel_rfl) (by kernel_rfl) (by kernel_rfl) (by rfl) (fun _ _ _ h => h) (by rfl) (by intro w; go_simp; with_reducible rfl) hU (fun hU => ?_); (try simp only [Act.put, List.setIfInBounds_toArray, List.set_cons_zero, List.set_cons_succ]))
      (refine AnyS.takeS (i := 5) rfl (by kernel_rfl) (by kernel_rfl) (by kernel_rfl) (by rfl) (by kernel_rfl) (by kernel_rfl) (fun _ _ _ h => h) (by rfl) (by intro W hSw; have h1 := hSw.2.2; clear hSw; go_simp; with_reducible rfl) hU (fun hU => ?_); (try simp only [Act.put, List.setIfInBounds_toArray, List.set_cons_zero, List.set_cons_succ]))
      (refine AnyS.take (i := 6) rfl (by kernel_rfl) (by kernel_rfl) (by kernel_rfl) (by rfl) (fun _ _ _ h => h) (by rfl) (by intro w; go_simp; with_reducible rfl) hU (fun hU => ?_); (try simp only [Act.put, List.setIfInBounds_toArray, List.set_cons_zero, List.set_cons_succ]))
      refine AnyS.branch (rs := [7]) (by kernel_rfl) (by simp) (AllS.cons rfl (fun K hK => ?_) AllS.nil)
      go_simp
      refine (HIX.out _ _ hMW).mono ?_
      rintro e w4 ⟨rfl, a4, rfl⟩
      have hM4 := hMW.drewN a4
      refine hK.out _ _ (.inl (HS.out _ _ hM4)) (fun hU => ?_)
      clear hK K
      (try simp only [Act.put, List.setIfInBounds_toArray, List.set_cons_zero, List.set_cons_succ])
      (refine AnyS.take (i := 8) rfl (by kernel_rfl) (by kernel_rfl) (by kernel_rfl) (by rfl) (fun _ _ _ h => h) (by rfl) (by intro w; go_simp; with_reducible rfl) hU (fun hU => ?_); (try simp only [Act.put, List.setIfInBounds_toArray, List.set_cons_zero, List.set_cons_succ]))
      refine AnyS.branch (rs := [9]) (by kernel_rfl) (by simp) (AllS.cons rfl (fun K hK => ?_) AllS.nil)
      have c2 := (hM4.at 1 rfl).cell' (nvs_get (upV (t.cls 1) q) hlt)
      have f2 := (hM4.at 1 rfl).free q
      have hM5 := hM4.setCell 1 rfl q (.int .i64 (t.cls 1 q : Int))
      simp only [List.set_cons_zero, List.set_cons_succ] at hM5
      rw [nvs_set _ _ hlt, upV_set] at hM5
      have HM5 := Lib.hid hM5
      clear hM5 hMW hM4
      go_simp
      refine hK.out _ _ (.inl (HS.out _ _ HM5.out)) (fun hU => ?_)
      clear hK K c2 f2
      (try simp only [Act.put, List.setIfInBounds_toArray, List.set_cons_zero, List.set_cons_succ])
      refine AnyS.done (by kernel_rfl) ?_ _
      clear hU
      have HM6 := Lib.hid (HM5.out.sub (List.sublist_cons_self _ _))
      clear HM5
      go_wp2_with fail
      go_roundw
      case rel => exact ⟨q + 1, by omega, by go_num, HM6.out⟩
      case measure => simp [intOf] <;> omega
    · have hq' : q = t.n := by omega
      subst hq'
      rw [upV_all] at hM
      go_wp2_with fail
      go_loopg [3] (t.n * t.n) (fun gk v3 wr => ∃ k A : Nat, 1 ≤ k ∧ v3 = .slice (some ⟨A, 0, none⟩) t.n t.n ∧ Mm w.heap.size w wr [(A, nvs t.n (t.cls k), 2), (w.heap.size, [.pointer (some ⟨T, 0, none⟩)], 126)] [] ∧ Hid (t.n * t.n ≤ gk + tot (t.cls k) t.n))
      case atStart => exact ⟨1, _, Nat.le_refl _, rfl, hM, Nat.le_add_right _ _⟩
      case round =>
        clear hM
        obtain ⟨k, A, hk, rfl, hM, HG⟩ := hrel
        have hmk := mk_i64 t.n (by omega) wr
        have hM1 := hM.alloc (madeCells #[.int .i64 0] t.n) 2
        rw [made_i64, show (nvs t.n fun _ => 0) = nvs t.n (upV (t.cls (k + 1)) 0) from nvs_congr fun q _ => by simp [upV]] at hM1
        obtain ⟨A2, hA2⟩ : ∃ A2, A2 = wr.heap.size := ⟨_, rfl⟩
        rw [← hA2] at hM1
        have HA2 := Lib.hid hA2
        clear hM hA2
        go_wp2_with fail
        rw [← HA2.out]
        clear hmk
        go_loopw [6, 37] (fun s6 i wi => ∃ q : Nat, q ≤ t.n ∧ i = .int .i64 q ∧ s6 = .bool ((List.range q).all fun i => t.cls (k + 1) i == t.cls k i) ∧ Mm w.heap.size w wi [(A2, nvs t.n (upV (t.cls (k + 1)) q), 2), (A, nvs t.n (t.cls k), 2), (w.heap.size, [.pointer (some ⟨T, 0, none⟩)], 126)] []) (fun _ i _ => t.n - (intOf i).toNat)
        case atStart => exact ⟨0, Nat.zero_le _, rfl, rfl, hM1⟩
        case round =>
          clear hM1 HA2
          obtain ⟨q, hq, rfl, rfl, hM⟩ := hrel
          by_cases hqlt : q < t.n
          · have i1 : (0 : Int) ≤ (q : Int) := by omega
            have i2 : (q : Int) < (t.n : Int) := by omega
            have c1 := (hM.at 2 rfl).cell' (i := 0) rfl
            have c2 := (hM.at 0 rfl).cell' (nvs_get (upV (t.cls (k + 1)) q) hqlt)
            have f2 := (hM.at 0 rfl).free q
            have HLK : Hid (Calls Try.prog 136 #[.pointer (some ⟨T, 0, none⟩), .slice (some ⟨A, 0, none⟩) t.n t.n, .int .i64 q] wr (RetQ (.int .i64 (t.cls (k + 1) q)) wr)) :=
              like_any t hw hn hd T k hk (t.cls k) (fun _ _ => rfl) A q hqlt wr (HT.out.keep hM.below) (fun q hq => (hM.at 1 rfl).cell' (nvs_get (t.cls k) hq))
            have HX := Lib.hid (allUpto_succ (fun i => t.cls (k + 1) i == t.cls k i) q)
            generalize upV (t.cls (k + 1)) q q = old at *
            go_wp2_with fail
            refine HLK.out.mono ?_
            rintro e w1 ⟨rfl, a1, rfl⟩
            have hM1 := (hM.drewN a1).setCell 0 rfl q (.int .i64 (t.cls (k + 1) q : Int))
            simp only [List.set_cons_zero, List.set_cons_succ] at hM1
            rw [nvs_set _ _ hqlt, upV_set] at hM1
            have c3 := (hM1.at 0 rfl).cell' (nvs_get (upV (t.cls (k + 1)) (q + 1)) hqlt)
            rw [show upV (t.cls (k + 1)) (q + 1) q = t.cls (k + 1) q by simp [upV]] at c3
            have c4 := (hM1.at 1 rfl).cell' (nvs_get (t.cls k) hqlt)
            have HM1 := Lib.hid hM1
            clear hM hM1 HLK
            obtain ⟨u, hu⟩ : ∃ u, u = t.cls (k + 1) q := ⟨_, rfl⟩
            obtain ⟨v, hv⟩ : ∃ v, v = t.cls k q := ⟨_, rfl⟩
            rw [← hu] at c3 c4 HM1 HX
            rw [← hv] at c4 HX
            rw [← hu]
            have HU := Lib.hid hu
            have HV := Lib.hid hv
            clear hu hv c1
            have HY : Hid (((u : Int) == (v : Int)) = (u == v)) := by show _ = _; rw [Bool.eq_iff_iff]; simp; omega
            cases hs : (List.range q).all fun i => t.cls (k + 1) i == t.cls k i
            · rw [hs] at HX
              clear hs
              go_wp2_with fail
              go_quiet (fail)
              go_wp2_with fail
              go_roundw
              case rel => exact ⟨q + 1, by omega, by go_num, by rw [HX.out]; rfl, HM1.out.drewN _⟩
              case measure => simp [intOf] <;> omega
            · rw [hs] at HX
              clear hs
              go_wp2_with fail
              go_quiet (fail)
              go_wp2_with fail
              go_roundw
              case rel => exact ⟨q + 1, by omega, by go_num, by rw [HX.out, HY.out]; simp, HM1.out.drewN _⟩
              case measure => simp [intOf] <;> omega
          · have hq' : q = t.n := by omega
            subst hq'
            cases hs : (List.range t.n).all fun i => t.cls (k + 1) i == t.cls k i
            · have hd' := cls_differ hs
              have hle := tot_cls_le t (k + 1) t.n
              rw [upV_all] at hM
              have hM2 : Mm w.heap.size w wr [(A2, nvs t.n (t.cls (k + 1)), 2), (w.heap.size, [.pointer (some ⟨T, 0, none⟩)], 126)] [] := hM.sub (by apply List.Sublist.cons_cons; apply List.Sublist.cons; exact List.Sublist.refl _)
              have HG2 : Hid (t.n * t.n ≤ (gk - 1) + tot (t.cls (k + 1)) t.n ∧ gk - 1 < gk) := by have := HG.out; show _ ∧ _; omega
              clear hs hM hd' hle HG
              go_wp2_with fail
              go_roundg (gk - 1)
              case measure => exact HG2.out.2
              case rel => exact ⟨k + 1, A2, by omega, rfl, hM2, HG2.out.1⟩
            · have hst := cls_same hs
              have HFIN : Hid (nvs t.n (t.cls k) = i64s (finL t)) := by
                show _ = _
                rw [nvs_i64s, finL]
                congr 1
                exact List.map_congr_left fun q hq => by rw [t.fin_st hw hn1 hst (by simpa using hq)]
              have hM2 : Mm w.heap.size w wr [(A, nvs t.n (t.cls k), 2), (w.heap.size, [.pointer (some ⟨T, 0, none⟩)], 126)] [] := hM.sub (List.sublist_cons_self _ _)
              have hF := (hM2.addOwn (List.mem_cons_self ..) t.n (by simp [nvs_len]) (by omega))
              have hO := hF.own _ (List.mem_cons_self ..)
              rw [HFIN.out] at hO
              have HO : Hid (OwnI wr w.heap.size (.slice (some ⟨A, 0, none⟩) t.n t.n) (finL t)) := by
                show World.ownsRow _ _ _ _ _ _ _
                simpa [i64s] using hO
              have hbl := hM2.below
              clear hs hM hM2 hF hO hst
              go_wp2_with fail
              go_ret
              exact ⟨_, rfl, hbl, HO.out⟩
end Go.Proofs.Yteagecoiijhflaa

/- A group behind its pointer; newGroup. -/
namespace Go.Proofs.Yteagecoiijhflaa
open Go.RowKit
set_option linter.unusedVariables false
set_option linter.unusedSimpArgs false

/-- a group lies at block G -/
structure GrpR (w : World) (G : Nat) (m : Mch) : Prop where
  mach : MAt w G 0 m
  back : MAt w G 98 (invM m)
  cls : ∃ g c, w.cell? ⟨G, 196, none⟩ = some (.slice (some ⟨g, 0, none⟩) m.s c) ∧ ∀ q, q < m.s → w.cell? ⟨g, q, none⟩ = some (.int .i64 (m.tbl.fin q))
  trv : ∃ g c, w.cell? ⟨G, 197, none⟩ = some (.slice (some ⟨g, 0, none⟩) m.s c) ∧ ∀ q, q < m.s → w.cell? ⟨g, q, none⟩ = some (.bool (trivB m q))
theorem GrpR.keep {w w' : World} {G : Nat} {m : Mch} (h : GrpR w G m) (hb : Below w.heap.size w w') : GrpR w' G m := by
  have K : ∀ (a : Addr) (v : Value), w.cell? a = some v → w'.cell? a = some v := fun a v h => (hb.cell (World.block_lt_of_cell? w a h)).trans h
  have hG : G < w.heap.size := World.block_lt_of_cell? w _ h.mach.l
  obtain ⟨h1, h2, ⟨g, c, h3, h4⟩, ⟨g', c', h5, h6⟩⟩ := h
  exact ⟨h1.below hb hG, h2.below hb hG, ⟨g, c, K _ _ h3, fun q hq => K _ _ (h4 q hq)⟩, ⟨g', c', K _ _ h5, fun q hq => K _ _ (h6 q hq)⟩⟩
theorem GrpR.lt {w : World} {G : Nat} {m : Mch} (h : GrpR w G m) : G < w.heap.size := World.block_lt_of_cell? w _ h.mach.l

/-! structs of several wide parts -/
theorem fold_splice (off : Nat) : ∀ (vs : List Value) (cs : Array Value) (k : Nat), ((vs.zipIdx k).foldl (fun (cs : Array Value) x => cs.setIfInBounds (off + x.2) x.1) cs).toList = splice cs.toList (off + k) vs
  | [], cs, k => rfl
  | v :: r, cs, k => by
    rw [List.zipIdx_cons, List.foldl_cons, fold_splice off r _ (k + 1), splice]
    simp [Nat.add_assoc]
theorem fill_step (place : Nat → Option (Nat × Nat)) (cells : Array Value) (i : Nat) (v : Value) (rest : List (Nat × Value)) (off size : Nat) (hp : place i = some (off, size)) (hs : v.cells.size = size) (hb : off + size ≤ cells.size) :
    Instr.fill place cells ((i, v) :: rest) = Instr.fill place (splice cells.toList off v.cells.toList).toArray rest := by
  rw [Instr.fill, hp]
  simp only
  rw [if_neg (by simp [hs]; omega)]
  congr 1
  rw [← Array.toList_inj]
  have h := fold_splice off v.cells.toList cells 0
  rw [Nat.add_zero] at h
  rw [List.toList_toArray, ← h, ← Array.foldl_toList, Array.toList_zipIdx]
theorem run_bld {t : TypeId} {parts : Array (Nat × Operand)} {cells : Array Value} {a : Act} {op : Oper} {ps : List (Nat × Value)} (ho : op.op = .build t parts) {w : World} (h' : Try.prog.built t ps = some cells) (hp : (parts.toList.map fun x => (x.1, a.eval x.2)) = ps) :
    (execOp a.eval op).run Try.prog w = .ok (.value (.agg cells)) w := by
  have h : Try.prog.built t (parts.map fun (i, x) => (i, a.eval x)).toList = some cells := by rw [Array.toList_map, ← h', ← hp]
  unfold execOp
  simp only [ho]
  simp [run_build w t _ cells h]
/-- a group's cells -/
def gcells (m : Mch) (u v : Value) : List Value := m.cells ++ ((invM m).cells ++ [u, v])
theorem splice_app (pre mid post vs : List Value) (h : vs.length = mid.length) : splice (pre ++ (mid ++ post)) pre.length vs = pre ++ (vs ++ post) := by
  apply List.ext_getElem?
  intro i
  rw [splice_get]
  simp only [List.length_append]
  by_cases c : pre.length ≤ i ∧ i < pre.length + vs.length ∧ i < pre.length + (mid.length + post.length)
  · rw [if_pos c, List.getElem?_append_right c.1, List.getElem?_append_left (by omega)]
  · rw [if_neg c]
    by_cases c1 : i < pre.length
    · rw [List.getElem?_append_left c1, List.getElem?_append_left c1]
    · rw [List.getElem?_append_right (by omega), List.getElem?_append_right (by omega)]
      by_cases c2 : i - pre.length < vs.length
      · exfalso; omega
      · rw [List.getElem?_append_right (by omega), List.getElem?_append_right (by omega), h]
theorem zeroG : Try.zeroCells133.toList = (Value.int .i64 0 :: Value.int .i64 0 :: List.replicate 96 (Value.int .u8 0)) ++ ((Value.int .i64 0 :: Value.int .i64 0 :: List.replicate 96 (Value.int .u8 0)) ++ [Value.slice none 0 0, Value.slice none 0 0]) := by kernel_rfl
theorem infoG : (Try.prog.info? 133).map (·.zero) = some (some (.agg Try.zeroCells133)) := by kernel_rfl
theorem placesG : (match Try.prog.underlying 133 with | some (.struct fields) => fields.toList.mapM (fun f => (Try.prog.info? f.type).map fun i => (f.offset, i.size)) | _ => none) = some [(0, 98), (98, 98), (196, 1), (197, 1)] := by kernel_rfl
theorem builtG {m : Mch} (hwf : m.Wf) (hok : m.Ok) (a b : Option Addr) (n k c d : Nat) :
    Try.prog.built 133 [(0, .agg m.cells.toArray), (1, .agg (invM m).cells.toArray), (2, .slice a n c), (3, .slice b k d)] = some (gcells m (.slice a n c) (.slice b k d)).toArray := by
  have hl1 := Mch.cells_length hwf
  have hl2 := Mch.cells_length (invM_wf hok hwf)
  have hi := infoG
  have hp := placesG
  unfold Program.built
  cases h1 : Try.prog.info? 133 with
  | none => rw [h1] at hi; cases hi
  | some it =>
    rw [h1] at hi
    simp only [Option.map_some, Option.some.injEq] at hi
    cases h2 : Try.prog.underlying 133 with
    | none => rw [h2] at hp; cases hp
    | some td =>
      rw [h2] at hp
      cases td <;> try (cases hp; done)
      rename_i fields
      simp only at hp ⊢
      rw [hi, hp]
      simp only [Value.cells]
      have hz : Try.zeroCells133.size = 198 := by rw [← Array.length_toList, zeroG]; rfl
      have e1 : splice Try.zeroCells133.toList 0 m.cells = m.cells ++ ((Value.int .i64 0 :: Value.int .i64 0 :: List.replicate 96 (Value.int .u8 0)) ++ [Value.slice none 0 0, Value.slice none 0 0]) := by
        rw [zeroG]; exact splice_app [] (Value.int .i64 0 :: Value.int .i64 0 :: List.replicate 96 (Value.int .u8 0)) _ _ (by rw [hl1]; rfl)
      have e2 : splice (m.cells ++ ((Value.int .i64 0 :: Value.int .i64 0 :: List.replicate 96 (Value.int .u8 0)) ++ [Value.slice none 0 0, Value.slice none 0 0])) 98 (invM m).cells = m.cells ++ ((invM m).cells ++ [Value.slice none 0 0, Value.slice none 0 0]) := by
        have := splice_app m.cells (Value.int .i64 0 :: Value.int .i64 0 :: List.replicate 96 (Value.int .u8 0)) [Value.slice none 0 0, Value.slice none 0 0] (invM m).cells (by rw [hl2]; rfl)
        rwa [hl1] at this
      have e3 : splice (m.cells ++ ((invM m).cells ++ [Value.slice none 0 0, Value.slice none 0 0])) 196 [Value.slice a n c] = m.cells ++ ((invM m).cells ++ [Value.slice a n c, Value.slice none 0 0]) := by
        have := splice_app (m.cells ++ (invM m).cells) [Value.slice none 0 0] [Value.slice none 0 0] [Value.slice a n c] rfl
        simpa [hl1, hl2] using this
      have e4 : splice (m.cells ++ ((invM m).cells ++ [Value.slice a n c, Value.slice none 0 0])) 197 [Value.slice b k d] = m.cells ++ ((invM m).cells ++ [Value.slice a n c, Value.slice b k d]) := by
        have := splice_app (m.cells ++ ((invM m).cells ++ [Value.slice a n c])) [Value.slice none 0 0] [] [Value.slice b k d] rfl
        simpa [hl1, hl2] using this
      rw [fill_step _ _ 0 _ _ 0 98 rfl (by simp [Value.cells, hl1]) (by rw [hz]; omega)]
      simp only [Value.cells]
      rw [e1, fill_step _ _ 1 _ _ 98 98 rfl (by simp [Value.cells, hl2]) (by simp [hl1])]
      simp only [Value.cells]
      rw [e2, fill_step _ _ 2 _ _ 196 1 rfl rfl (by simp [hl1, hl2])]
      simp only [Value.cells]
      rw [e3, fill_step _ _ 3 _ _ 197 1 rfl rfl (by simp [hl1, hl2])]
      simp only [Value.cells]
      rw [e4]
      rfl

set_option maxRecDepth 100000 in
set_option maxHeartbeats 4000000 in
theorem newGroup_any (m : Mch) (hwf : m.Wf) (hok : m.Ok) (w : World) :
    Calls Try.prog 67 #[.agg m.cells.toArray] w fun e w' => ∃ G, e = .returned (.pointer (some ⟨G, 0, none⟩)) ∧ Below w.heap.size w w' ∧ GrpR w' G m := by
  have h3 := hok.l_le
  have h16 := hok.s_le
  have hm := MAt.boxed w m 29
  have hb0 := boxedBelow w m.cells.toArray 29
  have hmx : Try.prog.follows .mixedOrders = true := by kernel_rfl
  have HMX := Lib.hid hmx
  have HIM := Lib.hid (mach_info hwf)
  clear hmx
  go_enter Try.func67, Try.ntmps67
  go_wp2_with fail
  refine (table_any w.heap.size 0 m hwf hok _ hm).mono ?_
  rintro e w1 ⟨T, rfl, hb1, hT⟩
  have hR := hT.reads hok.s_pos
  have hbb1 := hb0.trans (hb1.mono hb0.size)
  have hm1 := hm.keep hb1 hwf
  have HM1 := Lib.hid hm1
  have HR := Lib.hid hR
  clear hm hT hR hm1
  go_wp2_with fail
  have HSM : Hid (∀ W, Below w1.heap.size w1 W → MAt W w.heap.size 0 m) := fun W hW => HM1.out.keep hW hwf
  refine region_S (fun W => MAt W w.heap.size 0 m) [] 9 rfl HMX.out (HM1.out.drewN 1) (fun hU => ?_)
  obtain ⟨W, hW⟩ : ∃ W, W = w1.drew := ⟨_, rfl⟩
  have hBW : Below w1.heap.size w1 W := by rw [hW]; exact (Below.refl _ w1).drew
  rw [← hW] at hU ⊢
  clear hW
  (refine AnyS.takeS (i := 0) rfl (by kernel_rfl) (by kernel_rfl) (by kernel_rfl) (by rfl) (by kernel_rfl) (by kernel_rfl) (fun _ _ _ h => h) (by rfl) (fun W hW => run_ld Try.underlying29 rfl HIM.out (.tmp 1) rfl rfl hW) hU (fun hU => ?_); (try simp only [Act.put, List.setIfInBounds_toArray, List.set_cons_zero, List.set_cons_succ]))
  (refine AnyS.take (i := 2) rfl (by kernel_rfl) (by kernel_rfl) (by kernel_rfl) (by rfl) (fun _ _ _ h => h) (by rfl) (by intro w; go_simp; with_reducible rfl) hU (fun hU => ?_); (try simp only [Act.put, List.setIfInBounds_toArray, List.set_cons_zero, List.set_cons_succ]); refine AnyS.take (i := 4) rfl (by kernel_rfl) (by kernel_rfl) (by kernel_rfl) (by rfl) (fun _ _ _ h => h) (by rfl) (by intro w; go_simp; with_reducible rfl) hU (fun hU => ?_); (try simp only [Act.put, List.setIfInBounds_toArray, List.set_cons_zero, List.set_cons_succ]))
  refine AnyS.branch (rs := [1]) (by kernel_rfl) (by simp) (AllS.cons rfl (fun K hK => ?_) AllS.nil)
  go_simp
  refine (inverse_any w.heap.size 0 m hwf hok _ (HSM.out _ hBW)).mono ?_
  rintro e w2 ⟨rfl, hb2⟩
  have hB2 := hBW.trans (hb2.mono hBW.size)
  refine hK.out _ _ (.inl (HSM.out _ hB2)) (fun hU => ?_)
  clear hK K hBW
  (try simp only [Act.put, List.setIfInBounds_toArray, List.set_cons_zero, List.set_cons_succ])
  refine AnyS.branch (rs := [3]) (by kernel_rfl) (by simp) (AllS.cons rfl (fun K hK => ?_) AllS.nil)
  go_simp
  refine (least_any m.tbl (m.tbl_wf hok hwf) (by show m.s ≤ _; omega) (by show m.l ≤ _; omega) hok.s_pos T _ (HR.out.keep hB2).gen).mono ?_
  rintro e w3 ⟨v, rfl, hb3, hO⟩
  have hB3 := hB2.trans (hb3.mono hB2.size)
  obtain ⟨gc, cc, rfl, hgc⟩ : ∃ g c, v = .slice (some ⟨g, 0, none⟩) m.s c ∧ ∀ q, q < m.s → w3.cell? ⟨g, q, none⟩ = some (.int .i64 (m.tbl.fin q)) := by
    have hp : 0 < (finL m.tbl).length := by rw [finL_len]; exact hok.s_pos
    obtain ⟨g, c, e, hlt, hge, hcell⟩ := own_form hO hp
    rw [finL_len] at e
    refine ⟨g, c, e, fun i hi => ?_⟩
    have := hcell i (.int .i64 ((finL m.tbl)[i]?.getD 0)) (i64s_get (by rw [finL_len]; exact hi))
    rwa [finL_get m.tbl hi] at this
  have HGC := Lib.hid hgc
  refine hK.out _ _ (.inl (HSM.out _ hB3)) (fun hU => ?_)
  clear hK K hB2 hO hgc
  (try simp only [Act.put, List.setIfInBounds_toArray, List.set_cons_zero, List.set_cons_succ])
  refine AnyS.branch (rs := [5]) (by kernel_rfl) (by simp) (AllS.cons rfl (fun K hK => ?_) AllS.nil)
  go_simp
  refine (tableTrivial_any T m hwf hok _ (HR.out.keep hB3)).mono ?_
  rintro e w4 ⟨g, rfl, hb4, hB⟩
  have hB4 := hB3.trans (hb4.mono hB3.size)
  have HBT := Lib.hid hB
  have HB4 := Lib.hid hb4
  refine hK.out _ _ (.inl (HSM.out _ hB4)) (fun hU => ?_)
  clear hK K hB3 hB
  (try simp only [Act.put, List.setIfInBounds_toArray, List.set_cons_zero, List.set_cons_succ])
  have HBG := Lib.hid (builtG hwf hok (some ⟨gc, 0, none⟩) (some ⟨g, 0, none⟩) m.s m.s cc m.s)
  refine AnyS.take (i := 6) rfl (by kernel_rfl) (by kernel_rfl) (by kernel_rfl) (by rfl) (fun _ _ _ h => h) (by rfl) (fun w => run_bld rfl HBG.out rfl) hU (fun hU => ?_)
  (try simp only [Act.put, List.setIfInBounds_toArray, List.set_cons_zero, List.set_cons_succ])
  refine AnyS.branch (rs := [7]) (by kernel_rfl) (by simp) (AllS.cons rfl (fun K hK => ?_) AllS.nil)
  go_simp
  refine hK.out _ _ (.inl (HSM.out _ (hB4.alloc hB4.size _))) (fun hU => ?_)
  clear hK K
  (try simp only [Act.put, List.setIfInBounds_toArray, List.set_cons_zero, List.set_cons_succ])
  (refine AnyS.take (i := 8) rfl (by kernel_rfl) (by kernel_rfl) (by kernel_rfl) (by rfl) (fun _ _ _ h => h) (by rfl) (by intro w; go_simp; with_reducible rfl) hU (fun hU => ?_); (try simp only [Act.put, List.setIfInBounds_toArray, List.set_cons_zero, List.set_cons_succ]))
  refine AnyS.done (by kernel_rfl) ?_ _
  clear hU
  have HBB := Lib.hid (hbb1.trans ((hB4.alloc hB4.size (.cells (gcells m (.slice (some ⟨gc, 0, none⟩) m.s cc) (.slice (some ⟨g, 0, none⟩) m.s m.s)).toArray 133)).mono hbb1.size))
  have HGR : Hid (GrpR (w4.alloc (.cells (gcells m (.slice (some ⟨gc, 0, none⟩) m.s cc) (.slice (some ⟨g, 0, none⟩) m.s m.s)).toArray 133)) w4.heap.size m) := by
    have hl1 := Mch.cells_length hwf
    have hl2 := Mch.cells_length (invM_wf hok hwf)
    have hN := Blk.new w4 (gcells m (.slice (some ⟨gc, 0, none⟩) m.s cc) (.slice (some ⟨g, 0, none⟩) m.s m.s)).toArray 133
    have hA : Below w4.heap.size w4 (w4.alloc (.cells (gcells m (.slice (some ⟨gc, 0, none⟩) m.s cc) (.slice (some ⟨g, 0, none⟩) m.s m.s)).toArray 133)) := (Below.refl _ _).alloc (Nat.le_refl _) _
    have K : ∀ {b i : Nat} {v : Value}, w4.cell? ⟨b, i, none⟩ = some v → (w4.alloc (.cells (gcells m (.slice (some ⟨gc, 0, none⟩) m.s cc) (.slice (some ⟨g, 0, none⟩) m.s m.s)).toArray 133)).cell? ⟨b, i, none⟩ = some v := fun h => (hA.cell (World.block_lt_of_cell? w4 _ h)).trans h
    refine ⟨hN.range 0 _ (fun j v hj => ?_), hN.range 98 _ (fun j v hj => ?_), ⟨gc, cc, hN.cell' ?_, fun q hq => ?_⟩, ⟨g, m.s, hN.cell' ?_, fun q hq => ?_⟩⟩
    · have : j < m.cells.length := (List.getElem?_eq_some_iff.1 hj).1
      simp only [gcells, List.toList_toArray, Nat.zero_add]
      rw [List.getElem?_append_left this]; exact hj
    · have : j < (invM m).cells.length := (List.getElem?_eq_some_iff.1 hj).1
      simp only [gcells, List.toList_toArray]
      rw [List.getElem?_append_right (by omega), hl1, show 98 + j - 98 = j by omega, List.getElem?_append_left this]; exact hj
    · simp only [gcells, List.toList_toArray]
      rw [List.getElem?_append_right (by omega), hl1, List.getElem?_append_right (by omega), hl2]; rfl
    · have h1 := HGC.out q hq
      exact K ((HB4.out.cell (p := ⟨gc, q, none⟩) (World.block_lt_of_cell? w3 _ h1)).trans h1)
    · simp only [gcells, List.toList_toArray]
      rw [List.getElem?_append_right (by omega), hl1, List.getElem?_append_right (by omega), hl2]; rfl
    · exact K (HBT.out.cell' (bvs_get (trivB m) hq))
  go_wp2_with fail
  go_ret
  exact ⟨_, rfl, HBB.out, HGR.out⟩
end Go.Proofs.Yteagecoiijhflaa
