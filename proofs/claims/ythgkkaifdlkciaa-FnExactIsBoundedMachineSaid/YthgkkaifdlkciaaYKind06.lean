import Derived.Test.YthgkkaifdlkciaaYKind05
import Derived.Test.YthgkkaifdlkciaaYKind04
import Derived.Deep.LoopGhost
import Derived.Test.YthgkkaifdlkciaaYKind03
import Derived.Maps.Own
import Derived.Maps.Views
import Derived.StringKeys
import Derived.Carry
import Derived.Test.YthgkkaifdlkciaaYKind02
import Derived.StillTailTactics
import Derived.Test.YthgkkaifdlkciaaYKind01
import Derived.Deep.Matrix
import Derived.Deep.Strs
import Derived.Test.YthgkkaifdlkciaaChecked
import Derived.JoinedOf
import Derived.OpenShut
/- Equal states of the program: (*table).least. -/
namespace Go.Proofs.Ythgkkaifdlkciaa
open Go.RowKit
set_option linter.unusedVariables false
set_option linter.unusedSimpArgs false

/-- a table for reading -/
def TabG (w : World) (T : Nat) (t : Tbl) : Prop := ∃ gN cN gO cO, w.cell? ⟨T, 0, none⟩ = some (.slice (some ⟨gN, 0, none⟩) t.n cN) ∧ w.cell? ⟨T, 1, none⟩ = some (.slice (some ⟨gO, 0, none⟩) t.n cO) ∧
  (∀ q, q < t.n → ∃ g c, w.cell? ⟨gN, q, none⟩ = some (.slice (some ⟨g, 0, none⟩) t.d c) ∧ ∀ x, x < t.d → w.cell? ⟨g, x, none⟩ = some (.int .i64 (t.nx q x))) ∧
  (∀ q, q < t.n → ∃ g c, w.cell? ⟨gO, q, none⟩ = some (.slice (some ⟨g, 0, none⟩) t.d c) ∧ ∀ x, x < t.d → w.cell? ⟨g, x, none⟩ = some (.int .i64 (t.ot q x)))
theorem TabR.gen {w : World} {T : Nat} {m : Mch} (h : TabR w T m) : TabG w T m.tbl := h
theorem TabG.keep {w w' : World} {T : Nat} {t : Tbl} (h : TabG w T t) (hb : Below w.heap.size w w') : TabG w' T t := by
  have K : ∀ (a : Addr) (v : Value), w.cell? a = some v → w'.cell? a = some v := fun a v h => (hb.cell (World.block_lt_of_cell? w a h)).trans h
  obtain ⟨gN, cN, gO, cO, h1, h2, h3, h4⟩ := h
  refine ⟨gN, cN, gO, cO, K _ _ h1, K _ _ h2, fun q hq => ?_, fun q hq => ?_⟩
  · obtain ⟨g, c, e, f⟩ := h3 q hq; exact ⟨g, c, K _ _ e, fun x hx => K _ _ (f x hx)⟩
  · obtain ⟨g, c, e, f⟩ := h4 q hq; exact ⟨g, c, K _ _ e, fun x hx => K _ _ (f x hx)⟩
theorem TabG.lt {w : World} {T : Nat} {t : Tbl} (h : TabG w T t) : T < w.heap.size := by
  obtain ⟨gN, cN, gO, cO, h1, h2, h3, h4⟩ := h
  exact World.block_lt_of_cell? w _ h1

set_option maxHeartbeats 1000000 in
theorem slEqI_any (a b : Option Addr) (c d : Nat) (xs ys : List Int) (hx : xs.length ≤ 1000000) (w : World) (ha : IntsAt w a xs) (hb : IntsAt w b ys) :
    Calls Try.prog 99 #[.slice a xs.length c, .slice b ys.length d] w (RetQ (.bool (decide (xs = ys))) w) := by
  have HA := Lib.hid ha
  have HB := Lib.hid hb
  clear ha hb
  go_enter Try.func99, Try.ntmps99
  by_cases hl : xs.length = ys.length
  · have hle : ((xs.length : Int) == (ys.length : Int)) = true := by simp; omega
    have hln : ((xs.length : Int) != (ys.length : Int)) = false := by simp; omega
    go_wp2_with fail
    go_loopw [13] (fun i wr => ∃ k : Nat, k ≤ xs.length ∧ i = .int .i64 k ∧ Hid (∃ n, wr = w.drewN n) ∧ Hid (∀ j, j < k → xs[j]? = ys[j]?)) (fun i _ => xs.length - (intOf i).toNat)
    case atStart => exact ⟨0, Nat.zero_le _, rfl, ⟨0, rfl⟩, fun j hj => by omega⟩
    case round =>
      obtain ⟨k, hk, rfl, HW, HE⟩ := hrel
      by_cases hlt : k < xs.length
      · obtain ⟨g, off, rfl, hc⟩ := HA.out k hlt
        obtain ⟨g', off', rfl, hc'⟩ := HB.out k (by omega)
        have hcell : ∀ a, wr.cell? a = w.cell? a := fun a => by obtain ⟨n, hn⟩ := HW.out; rw [hn]; rfl
        rw [← hcell] at hc hc'
        clear hcell
        have i1 : (0 : Int) ≤ (k : Int) := by omega
        have i2 : (k : Int) < (xs.length : Int) := by omega
        have i3 : (k : Int) < (ys.length : Int) := by omega
        have i4 : k < ys.length := by omega
        obtain ⟨x, hx⟩ : ∃ x, x = xs[k]?.getD 0 := ⟨_, rfl⟩
        obtain ⟨y, hy⟩ : ∃ y, y = ys[k]?.getD 0 := ⟨_, rfl⟩
        rw [← hx] at hc
        rw [← hy] at hc'
        by_cases e : x = y
        · have HN : Hid (∀ j, j < k + 1 → xs[j]? = ys[j]?) := fun j hj => by
            by_cases h : j = k
            · subst h
              rw [List.getElem?_eq_getElem hlt, List.getElem?_eq_getElem i4] at *
              simp only [Option.getD_some] at hx hy
              rw [← hx, ← hy, e]
            · exact HE.out j (by omega)
          subst e
          clear hx hy
          go_wp2_with fail
          go_quiet (fail)
          go_wp2_with fail
          go_roundw
          case rel => exact ⟨k + 1, by omega, by go_num, by obtain ⟨n, hn⟩ := HW.out; rw [hn]; exact dN2 _ _ _, HN⟩
          case measure => simp [intOf] <;> omega
        · have H : Hid (decide (xs = ys) = false) := by
            show _ = _
            simp only [decide_eq_false_iff_not]; intro h; rw [h] at hx; exact e (hx.trans hy.symm)
          have e' : (x != y) = true := by simpa using e
          clear e hx hy
          go_wp2_with fail
          go_quiet (fail)
          go_wp2_with fail
          go_ret
          exact ⟨ret_bool H.out.symm, by obtain ⟨n, hn⟩ := HW.out; rw [hn]; exact dN2 _ _ _⟩
      · have H : Hid (decide (xs = ys) = true) := by
          show _ = _
          simp only [decide_eq_true_eq]
          apply List.ext_getElem?
          intro j
          by_cases hj : j < k
          · exact HE.out j hj
          · rw [List.getElem?_eq_none (by omega), List.getElem?_eq_none (by omega)]
        go_wp2_with fail
        go_ret
        exact ⟨ret_bool H.out.symm, HW.out⟩
  · have H : Hid (decide (xs = ys) = false) := by
      show _ = _
      simp only [decide_eq_false_iff_not]; intro e; rw [e] at hl; exact hl rfl
    have hle : ((xs.length : Int) == (ys.length : Int)) = false := by simp; omega
    have hln : ((xs.length : Int) != (ys.length : Int)) = true := by simp; omega
    clear hl
    go_wp2_with fail
    go_ret
    exact ⟨ret_bool H.out.symm, 0, rfl⟩

/-- the outputs of a state -/
def rowL (t : Tbl) (q : Nat) : List Int := (List.range t.d).map fun x => (t.ot q x : Int)
theorem rowL_len (t : Tbl) (q : Nat) : (rowL t q).length = t.d := by simp [rowL]
theorem rowL_get (t : Tbl) (q : Nat) {x : Nat} (h : x < t.d) : (rowL t q)[x]?.getD 0 = (t.ot q x : Int) := by simp [rowL, h]
theorem rowL_eqv (t : Tbl) (q r : Nat) : decide (rowL t r = rowL t q) = t.eqv 1 q r := by
  rw [Bool.eq_iff_iff, decide_eq_true_eq, Tbl.eqv_succ]
  constructor
  · intro h x hx
    refine ⟨?_, rfl⟩
    have := congrArg (fun l : List Int => l[x]?.getD 0) h
    simp only [rowL_get t _ hx] at this
    omega
  · intro h
    apply List.map_congr_left
    intro x hx
    have := (h x (by simpa using hx)).1
    omega

theorem enters_least1 : Enters 98 := fun args w => by kernel_rfl
set_option maxRecDepth 100000 in
set_option maxHeartbeats 1000000 in
theorem least1_any (t : Tbl) (hn : t.n ≤ 1000) (hd : t.d ≤ 100) (T p1 p4 : Nat) (g c r q : Nat) (hq : q < t.n) (w : World) (hT : TabG w T t) (h1 : w.cell? ⟨p1, 0, none⟩ = some (.pointer (some ⟨T, 0, none⟩))) (h4 : w.cell? ⟨p4, 0, none⟩ = some (.int .i64 q))
    (hrow : ∀ x, x < t.d → w.cell? ⟨g, x, none⟩ = some (.int .i64 (t.ot r x))) :
    Calls Try.prog 98 #[.slice (some ⟨g, 0, none⟩) t.d c, .pointer (some ⟨p1, 0, none⟩), .pointer (some ⟨p4, 0, none⟩)] w (RetQ (.bool (t.eqv 1 q r)) w) := by
  obtain ⟨gN, cN, gO, cO, t1, t2, t3, t4⟩ := hT
  obtain ⟨g', c', e, f⟩ := t4 q hq
  have HEQ : Hid (∀ n, Calls Try.prog 99 #[.slice (some ⟨g, 0, none⟩) t.d c, .slice (some ⟨g', 0, none⟩) t.d c'] (w.drewN n) (RetQ (.bool (t.eqv 1 q r)) (w.drewN n))) := fun n => by
    have := slEqI_any (some ⟨g, 0, none⟩) (some ⟨g', 0, none⟩) c c' (rowL t r) (rowL t q) (by rw [rowL_len]; omega) (w.drewN n)
      (fun i hi => ⟨g, 0, rfl, by rw [rowL_len] at hi; rw [rowL_get t _ hi, Nat.zero_add]; exact hrow i hi⟩) (fun i hi => ⟨g', 0, rfl, by rw [rowL_len] at hi; rw [rowL_get t _ hi, Nat.zero_add]; exact f i hi⟩)
    rw [rowL_len, rowL_len, rowL_eqv] at this
    exact this
  have i1 : (0 : Int) ≤ (q : Int) := by omega
  have i2 : (q : Int) < (t.n : Int) := by omega
  clear t3 t4 f hrow t1
  go_enter Try.func98, Try.ntmps98
  go_wp2_with fail
  go_quiet ((go_at_call 99; exact Calls.quiet_of (HEQ.out _)))
  go_wp2_with fail
  go_ret
  exact ⟨rfl, _, rfl⟩

/-- the first number below n that p lets in, or -1 -/
def idxN (p : Nat → Bool) (n : Nat) : Int := match (List.range n).find? p with | some i => (i : Int) | none => -1
theorem idxN_hit {p : Nat → Bool} {n k : Nat} (hk : k < n) (h1 : p k = true) (h2 : ∀ j, j < k → p j = false) : idxN p n = k := by
  have : (List.range n).find? p = some k := by
    rw [List.find?_range_eq_some]
    exact ⟨h1, by simpa using hk, fun j hj => by rw [h2 j hj]; rfl⟩
  rw [idxN, this]
theorem idxN_none {p : Nat → Bool} {n : Nat} (h : ∀ j, j < n → p j = false) : idxN p n = -1 := by
  have : (List.range n).find? p = none := by
    rw [List.find?_eq_none]
    intro x hx
    rw [h x (by simpa using hx)]; decide
  rw [idxN, this]

set_option maxRecDepth 100000 in
set_option maxHeartbeats 1000000 in
theorem indexFuncII_any (k : Nat) (hent : Enters k) (cap : Array Value) (g n c : Nat) (hn : n ≤ 1000000) (rv : Nat → Value) (p : Nat → Bool) (w : World)
    (hc : ∀ i, i < n → w.cell? ⟨g, i, none⟩ = some (rv i)) (hf : ∀ j i, i < n → Calls Try.prog k (#[rv i] ++ cap) (w.drewN j) (RetQ (.bool (p i)) (w.drewN j))) :
    Calls Try.prog 97 #[.slice (some ⟨g, 0, none⟩) n c, .func (.func k) #[] cap] w (RetQ (.int .i64 (idxN p n)) w) := by
  have hent' : ∀ args w, Sem.run Try.prog (callFunc k args) w = .ok (.enter k args) w := hent
  have HC := Lib.hid hc
  have HF := Lib.hid hf
  clear hc hf hent
  go_enter Try.func97, Try.ntmps97
  go_wp2_with fail
  go_loopw [8] (fun i wr => ∃ j : Nat, j ≤ n ∧ i = .int .i64 j ∧ Hid (∃ m, wr = w.drewN m) ∧ Hid (∀ i, i < j → p i = false)) (fun i _ => n - (intOf i).toNat)
  case atStart => exact ⟨0, Nat.zero_le _, rfl, ⟨0, rfl⟩, fun i hi => by omega⟩
  case round =>
    obtain ⟨j, hj, rfl, HW, HI⟩ := hrel
    by_cases hlt : j < n
    · have hcell := HC.out j hlt
      have hcw : wr.cell? ⟨g, j, none⟩ = w.cell? ⟨g, j, none⟩ := by obtain ⟨n, hn⟩ := HW.out; rw [hn]; rfl
      rw [← hcw] at hcell
      have i1 : (j : Int) < (n : Int) := by omega
      have i2 : (0 : Int) ≤ (j : Int) := by omega
      have hcall : Hid (Calls Try.prog k (#[rv j] ++ cap) wr (RetQ (.bool (p j)) wr)) := by
        obtain ⟨n, hn⟩ := HW.out; rw [hn]; exact HF.out n j hlt
      generalize rv j = v at *
      clear hcw
      go_wp2_with fail
      refine hcall.out.mono ?_
      rintro e w1 ⟨rfl, HW1⟩
      have HW2 : Hid (∃ m, w1 = w.drewN m) := by obtain ⟨a, ha⟩ := HW1; obtain ⟨b, hb⟩ := HW.out; rw [ha, hb]; exact dN2 _ _ _
      clear HW1 hcall hcell
      cases hp : p j
      · have HJ : Hid (∀ i, i < j + 1 → p i = false) := fun i hi => by
          by_cases e : i = j
          · subst e; exact hp
          · exact HI.out i (by omega)
        clear hp
        go_wp2_with fail
        go_roundw
        case rel => exact ⟨j + 1, by omega, by go_num, HW2, HJ⟩
        case measure => simp [intOf] <;> omega
      · have HJ := Lib.hid (idxN_hit hlt hp HI.out)
        clear hp
        go_wp2_with fail
        go_ret
        exact ⟨ret_int HJ.out.symm, HW2.out⟩
    · have HJ := Lib.hid (idxN_none (p := p) (n := n) (fun i hi => HI.out i (by omega)))
      have hj' : ¬ (j : Int) < n := by omega
      go_wp2_with fail
      go_ret
      exact ⟨ret_int HJ.out.symm, HW.out⟩
end Go.Proofs.Ythgkkaifdlkciaa

/- (*table).like, (*table).least. -/
namespace Go.Proofs.Ythgkkaifdlkciaa
open Go.RowKit
set_option linter.unusedVariables false
set_option linter.unusedSimpArgs false

def okL (t : Tbl) (c : Nat → Nat) (q r : Nat) : Bool := c r == c q && (List.range t.d).all fun x => c (t.nx q x) == c (t.nx r x)
theorem okL_eqv {t : Tbl} (hw : t.Wf) {k : Nat} (hk : 1 ≤ k) {c : Nat → Nat} (hc : ∀ q, q < t.n → c q = t.cls k q) {q r : Nat} (hq : q < t.n) (hr : r < t.n) : okL t c q r = t.eqv (k + 1) q r := by
  rw [Bool.eq_iff_iff, Tbl.eqv_succ]
  simp only [okL, Bool.and_eq_true, beq_iff_eq, List.all_eq_true, List.mem_range]
  rw [hc q hq, hc r hr]
  constructor
  · rintro ⟨h1, h2⟩ x hx
    have e := h2 x hx
    rw [hc _ (hw q x hq hx), hc _ (hw r x hr hx)] at e
    refine ⟨?_, (t.cls_iff k _ _).2 e⟩
    obtain ⟨j, rfl⟩ : ∃ j, k = j + 1 := ⟨k - 1, by omega⟩
    exact ((t.eqv_succ j q r).1 ((t.cls_iff (j + 1) q r).2 h1.symm) x hx).1
  · intro h
    have h' : t.eqv (k + 1) q r = true := (t.eqv_succ k q r).2 h
    refine ⟨((t.cls_iff k q r).1 (t.eqv_mono k q r h')).symm, fun x hx => ?_⟩
    rw [hc _ (hw q x hq hx), hc _ (hw r x hr hx)]
    exact (t.cls_iff k _ _).1 (h x hx).2
theorem okL_low {t : Tbl} {k : Nat} {c : Nat → Nat} (hc : ∀ q, q < t.n → c q = t.cls k q) {q s : Nat} (hq : q < t.n) (hs : s < c q) : t.eqv (k + 1) q s = false := by
  rw [hc q hq] at hs
  have := lst_min hs
  cases e : t.eqv (k + 1) q s
  · rfl
  · rw [t.eqv_mono k q s e] at this; cases this

set_option maxRecDepth 100000 in
set_option maxHeartbeats 4000000 in
theorem like_any (t : Tbl) (hw : t.Wf) (hn : t.n ≤ 1000) (hd : t.d ≤ 100) (T : Nat) (k : Nat) (hk : 1 ≤ k) (c : Nat → Nat) (hc : ∀ q, q < t.n → c q = t.cls k q) (g : Nat) (q : Nat) (hq : q < t.n) (w : World) (hT : TabG w T t)
    (hB : ∀ q, q < t.n → w.cell? ⟨g, q, none⟩ = some (.int .i64 (c q))) :
    Calls Try.prog 100 #[.pointer (some ⟨T, 0, none⟩), .slice (some ⟨g, 0, none⟩) t.n t.n, .int .i64 q] w (RetQ (.int .i64 (t.cls (k + 1) q)) w) := by
  obtain ⟨gN, cN, gO, cO, t1, t2, t3, t4⟩ := hT
  have hcq : c q ≤ q := by rw [hc q hq]; exact t.cls_le k q
  have e1 := hB q hq
  have HB := Lib.hid hB
  have H3 := Lib.hid t3
  have HC := Lib.hid hc
  have HW := Lib.hid hw
  have i1 : (0 : Int) ≤ (q : Int) := by omega
  have i2 : (q : Int) < (t.n : Int) := by omega
  obtain ⟨a, ha⟩ : ∃ a, a = c q := ⟨_, rfl⟩
  rw [← ha] at e1 hcq
  have HA := Lib.hid ha
  clear t2 t3 t4 hB hc hw ha
  go_enter Try.func100, Try.ntmps100
  go_wp2_with fail
  clear e1
  go_loopw [7] (fun i wr => ∃ r : Nat, a ≤ r ∧ r ≤ q ∧ i = .int .i64 r ∧ Hid (∃ m, wr = w.drewN m) ∧ Hid (∀ s, s < r → t.eqv (k + 1) q s = false)) (fun i _ => q - (intOf i).toNat)
  case atStart => exact ⟨a, Nat.le_refl _, hcq, rfl, ⟨0, rfl⟩, fun s hs => okL_low HC.out hq (by rw [← HA.out]; exact hs)⟩
  case round =>
    obtain ⟨r, har, hr, rfl, HD, HN⟩ := hrel
    by_cases hlt : r < q
    · have hcell : ∀ a, wr.cell? a = w.cell? a := fun a => by obtain ⟨n, hn⟩ := HD.out; rw [hn]; rfl
      have HCELL := Lib.hid hcell
      clear hcell
      have b1 := (HCELL.out _).trans (HB.out q hq)
      have b2 := (HCELL.out _).trans (HB.out r (by omega))
      have HOK : Hid (okL t c q r = t.eqv (k + 1) q r) := okL_eqv HW.out hk HC.out hq (by omega)
      have HNX : Hid (t.eqv (k + 1) q r = false → ∀ s, s < r + 1 → t.eqv (k + 1) q s = false) := fun h s hs => by
        by_cases e : s = r
        · subst e; exact h
        · exact HN.out s (by omega)
      have HOD : Hid (okL t c q r = (c r == c q && (List.range t.d).all fun x => c (t.nx q x) == c (t.nx r x))) := rfl
      have j1 : (0 : Int) ≤ (r : Int) := by omega
      have j2 : (r : Int) < (t.n : Int) := by omega
      have j3 : (r : Int) < (q : Int) := by omega
      obtain ⟨u, hu⟩ : ∃ u, u = c q := ⟨_, rfl⟩
      obtain ⟨v, hv⟩ : ∃ v, v = c r := ⟨_, rfl⟩
      rw [← hu] at b1 HOD
      rw [← hv] at b2 HOD
      by_cases e : v = u
      · have HV := Lib.hid hv
        subst e
        clear hu hv
        obtain ⟨gq, cq, f1, f2⟩ := H3.out q hq
        obtain ⟨gr, cr, f3, f4⟩ := H3.out r (by omega)
        have HF2 := Lib.hid f2
        have HF4 := Lib.hid f4
        have d1 := (HCELL.out _).trans t1
        have d2 := (HCELL.out _).trans f1
        have d3 := (HCELL.out _).trans f3
        clear f2 f4
        go_wp2_with fail
        go_quiet (fail)
        go_wp2_with fail
        clear b1 b2
        go_loopw [8, 37] (fun s8 i wi => ∃ x : Nat, x ≤ t.d ∧ i = .int .i64 x ∧ s8 = .bool ((List.range x).all fun x => c (t.nx q x) == c (t.nx r x)) ∧ Hid (∃ m, wi = w.drewN m)) (fun _ i _ => t.d - (intOf i).toNat)
        case atStart => exact ⟨0, Nat.zero_le _, rfl, rfl, by obtain ⟨n, hn⟩ := HD.out; rw [hn]; exact dN2 _ _ _⟩
        case round =>
          clear d1 d2 d3
          obtain ⟨x, hx, rfl, rfl, HDi⟩ := hrel
          have hcell : ∀ a, wr.cell? a = w.cell? a := fun a => by obtain ⟨n, hn⟩ := HDi.out; rw [hn]; rfl
          have HCELL := Lib.hid hcell
          clear hcell
          by_cases hxlt : x < t.d
          · have d1 := (HCELL.out _).trans t1
            have d2 := (HCELL.out _).trans (HF2.out x hxlt)
            have d3 := (HCELL.out _).trans f3
            have d4 := (HCELL.out _).trans (HF4.out x hxlt)
            have n1 := HW.out q x hq hxlt
            have n2 := HW.out r x (by omega) hxlt
            have d5 := (HCELL.out _).trans (HB.out _ n1)
            have d6 := (HCELL.out _).trans (HB.out _ n2)
            have HX := Lib.hid (allUpto_succ (fun x => c (t.nx q x) == c (t.nx r x)) x)
            have k1 : (0 : Int) ≤ (x : Int) := by omega
            have k2 : (x : Int) < (t.d : Int) := by omega
            generalize t.nx q x = z1 at *
            generalize t.nx r x = z2 at *
            have k3 : (0 : Int) ≤ (z1 : Int) := by omega
            have k4 : (z1 : Int) < (t.n : Int) := by omega
            have k5 : (0 : Int) ≤ (z2 : Int) := by omega
            have k6 : (z2 : Int) < (t.n : Int) := by omega
            generalize c z1 = y1 at *
            generalize c z2 = y2 at *
            cases hs : (List.range x).all fun x => c (t.nx q x) == c (t.nx r x)
            · rw [hs] at HX
              clear hs
              go_wp2_with fail
              go_quiet (fail)
              go_wp2_with fail
              go_roundw
              case rel => exact ⟨x + 1, by omega, by go_num, by rw [HX.out]; rfl, by obtain ⟨n, hn⟩ := HDi.out; rw [hn]; exact dN2 _ _ _⟩
              case measure => simp [intOf] <;> omega
            · rw [hs] at HX
              clear hs
              have HY : Hid (((y1 : Int) == (y2 : Int)) = (y1 == y2)) := by show _ = _; rw [Bool.eq_iff_iff]; simp; omega
              go_wp2_with fail
              go_quiet (fail)
              go_wp2_with fail
              go_roundw
              case rel => exact ⟨x + 1, by omega, by go_num, by rw [HX.out, HY.out]; simp, by obtain ⟨n, hn⟩ := HDi.out; rw [hn]; exact dN2 _ _ _⟩
              case measure => simp [intOf] <;> omega
          · have hx' : x = t.d := by omega
            subst hx'
            cases hs : (List.range t.d).all fun x => c (t.nx q x) == c (t.nx r x)
            · have HE := Lib.hid (HNX.out (by rw [← HOK.out, HOD.out, hs]; simp))
              clear hs
              go_wp2_with fail
              go_roundw
              case rel => exact ⟨r + 1, by omega, by omega, by go_num, HDi, HE.out⟩
              case measure => simp [intOf] <;> omega
            · have hE : t.eqv (k + 1) q r = true := by rw [← HOK.out, HOD.out, hs]; simp
              have HE : Hid (t.cls (k + 1) q = r) := lst_eq (by omega) (fun _ => hE) HN.out
              clear hs hE
              go_wp2_with fail
              go_ret
              exact ⟨ret_int (by rw [HE.out]), HDi.out⟩
      · have HE := Lib.hid (HNX.out (by rw [← HOK.out, HOD.out]; simp [e]))
        have e' : ((v : Int) != (u : Int)) = true := by simp; omega
        clear hu hv e
        go_wp2_with fail
        go_quiet (fail)
        go_wp2_with fail
        go_roundw
        case rel => exact ⟨r + 1, by omega, by omega, by go_num, by obtain ⟨n, hn⟩ := HD.out; rw [hn]; exact dN2 _ _ _, HE.out⟩
        case measure => simp [intOf] <;> omega
    · have hr' : r = q := by omega
      subst hr'
      have HE : Hid (t.cls (k + 1) r = r) := lst_eq (Nat.le_refl _) (fun h => by omega) HN.out
      go_wp2_with fail
      go_ret
      exact ⟨ret_int (by rw [HE.out]), HD.out⟩
end Go.Proofs.Ythgkkaifdlkciaa

/- (*table).least. -/
namespace Go.Proofs.Ythgkkaifdlkciaa
open Go.RowKit
set_option linter.unusedVariables false
set_option linter.unusedSimpArgs false

def finL (t : Tbl) : List Int := (List.range t.n).map fun q => (t.fin q : Int)
theorem finL_len (t : Tbl) : (finL t).length = t.n := by simp [finL]
theorem finL_get (t : Tbl) {q : Nat} (h : q < t.n) : (finL t)[q]?.getD 0 = (t.fin q : Int) := by simp [finL, h]
theorem nvs_i64s (n : Nat) (f : Nat → Nat) : nvs n f = i64s ((List.range n).map fun q => (f q : Int)) := by simp [nvs, i64s]
/-- the first k states done -/
def upV (f : Nat → Nat) (k q : Nat) : Nat := if q < k then f q else 0
theorem upV_set (f : Nat → Nat) (k : Nat) : updN (upV f k) k (f k) = upV f (k + 1) := by
  funext q
  simp only [updN, upV]
  by_cases e : q = k
  · subst e; rw [if_pos rfl, if_pos (by omega)]
  · rw [if_neg e]
    by_cases h : q < k
    · rw [if_pos h, if_pos (by omega)]
    · rw [if_neg h, if_neg (by omega)]
theorem upV_all (f : Nat → Nat) (n : Nat) : nvs n (upV f n) = nvs n f := nvs_congr fun q hq => by simp [upV, hq]
theorem tot_cls_le (t : Tbl) (k n : Nat) : tot (t.cls k) n ≤ n * n := by
  have : ∀ j, j ≤ n → tot (t.cls k) j ≤ j * n := by
    intro j
    induction j with
    | zero => intro _; simp [tot]
    | succ j ih =>
      intro h
      have := ih (by omega)
      have := t.cls_le k j
      simp only [tot]
      rw [Nat.add_mul]; omega
  exact this n (Nat.le_refl _)
theorem tot_le_tot {f g : Nat → Nat} : ∀ n, (∀ q, q < n → f q ≤ g q) → tot f n ≤ tot g n
  | 0, _ => Nat.le_refl _
  | n + 1, h => by have := tot_le_tot n (fun q hq => h q (by omega)); have := h n (by omega); simp only [tot]; omega
theorem tot_lt_tot {f g : Nat → Nat} : ∀ n, (∀ q, q < n → f q ≤ g q) → (∃ q, q < n ∧ f q ≠ g q) → tot f n < tot g n
  | 0, _, ⟨q, hq, _⟩ => by omega
  | n + 1, h, ⟨q, hq, hne⟩ => by
    have h1 := h n (by omega)
    simp only [tot]
    by_cases e : q = n
    · subst e
      have := tot_le_tot q (fun p hp => h p (by omega))
      omega
    · have := tot_lt_tot n (fun p hp => h p (by omega)) ⟨q, by omega, hne⟩
      omega
theorem cls_same {t : Tbl} {k : Nat} (h : ((List.range t.n).all fun i => t.cls (k + 1) i == t.cls k i) = true) : t.St k := fun q hq => by
  rw [List.all_eq_true] at h
  simpa using h q (by simpa using hq)
theorem cls_differ {t : Tbl} {k : Nat} (h : ((List.range t.n).all fun i => t.cls (k + 1) i == t.cls k i) = false) : tot (t.cls k) t.n < tot (t.cls (k + 1)) t.n := by
  rw [List.all_eq_false] at h
  obtain ⟨q, hq, hne⟩ := h
  refine tot_lt_tot t.n (fun q _ => t.cls_mono k q) ⟨q, by simpa using hq, fun e => hne (by simp [e])⟩
theorem cls1_idx (t : Tbl) {q : Nat} (hq : q < t.n) : idxN (t.eqv 1 q) t.n = (t.cls 1 q : Int) :=
  idxN_hit (by have := t.cls_le 1 q; omega) (t.cls_eqv 1 q) (fun j hj => lst_min hj)

set_option maxRecDepth 100000 in
set_option maxHeartbeats 4000000 in
theorem least_any (t : Tbl) (hw : t.Wf) (hn : t.n ≤ 1000) (hd : t.d ≤ 100) (hn1 : 1 ≤ t.n) (T : Nat) (w : World) (hT : TabG w T t) :
    Calls Try.prog 71 #[.pointer (some ⟨T, 0, none⟩)] w fun e w' => ∃ v, e = .returned v ∧ Below w.heap.size w w' ∧ OwnI w' w.heap.size v (finL t) := by
  have hmf : ∀ (fn : Fn) (first cap : Array Value) (w : World), (Instr.makeFunc fn first cap).run Try.prog w = .ok (.func fn first cap) w := fun _ _ _ _ => rfl
  have HT := Lib.hid hT
  have hTw := hT.lt
  obtain ⟨gN, cN, gO, cO, t1, t2, t3, t4⟩ := id hT
  have hM0 := ((Mm.start w).alloc #[.pointer (some ⟨T, 0, none⟩)] 79).alloc (madeCells #[.int .i64 0] t.n) 2
  rw [show (w.alloc (.cells #[.pointer (some ⟨T, 0, none⟩)] 79)).heap.size = w.heap.size + 1 by simp, made_i64, show (nvs t.n fun _ => 0) = nvs t.n (upV (t.cls 1) 0) from nvs_congr fun q _ => by simp [upV]] at hM0
  have hmk := mk_i64 t.n (by omega) (w.alloc (.cells #[.pointer (some ⟨T, 0, none⟩)] 79))
  have T2 := Lib.hid t2
  have T4 := Lib.hid t4
  have hTO : T < w.heap.size := hTw
  clear hT t1 t3 t4
  go_enter Try.func71, Try.ntmps71
  go_wp2_with fail
  clear hmk t2
  go_loopw [19] (fun i wr => ∃ q : Nat, q ≤ t.n ∧ i = .int .i64 q ∧ Mm w.heap.size w wr [(w.heap.size + 1, nvs t.n (upV (t.cls 1) q), 2), (w.heap.size, [.pointer (some ⟨T, 0, none⟩)], 79)] []) (fun i _ => t.n - (intOf i).toNat)
  case atStart => exact ⟨0, Nat.zero_le _, rfl, hM0⟩
  case round =>
    clear hM0
    obtain ⟨q, hq, rfl, hM⟩ := hrel
    by_cases hlt : q < t.n
    · have hMa := hM.alloc #[.int .i64 (q : Int)] 3
      obtain ⟨wa, hwa⟩ : ∃ wa, wa = wr.alloc (.cells #[.int .i64 (q : Int)] 3) := ⟨_, rfl⟩
      obtain ⟨bq, hbq⟩ : ∃ bq, bq = wr.heap.size := ⟨_, rfl⟩
      rw [← hwa, ← hbq] at hMa
      have i1 : (0 : Int) ≤ (q : Int) := by omega
      have i2 : (q : Int) < (t.n : Int) := by omega
      have HS : Hid (∀ W cs, Mm w.heap.size w W [(bq, [.int .i64 (q : Int)], 3), (w.heap.size + 1, cs, 2), (w.heap.size, [.pointer (some ⟨T, 0, none⟩)], 79)] [] → (W.cell? ⟨bq, 0, none⟩ = some (.int .i64 (q : Int)) ∧ W.cell? ⟨w.heap.size, 0, none⟩ = some (.pointer (some ⟨T, 0, none⟩)) ∧ W.cell? ⟨T, 1, none⟩ = some (.slice (some ⟨gO, 0, none⟩) t.n cO))) := fun W cs h =>
        ⟨(h.at 0 rfl).cell' rfl, (h.at 2 rfl).cell' rfl, (h.below.cell (p := ⟨T, 1, none⟩) hTO).trans T2.out⟩
      have HIX : Hid (∀ W cs, Mm w.heap.size w W [(bq, [.int .i64 (q : Int)], 3), (w.heap.size + 1, cs, 2), (w.heap.size, [.pointer (some ⟨T, 0, none⟩)], 79)] [] → Calls Try.prog 97 #[.slice (some ⟨gO, 0, none⟩) t.n cO, .func (.func 98) #[] #[.pointer (some ⟨w.heap.size, 0, none⟩), .pointer (some ⟨bq, 0, none⟩)]] W (RetQ (.int .i64 (t.cls 1 q)) W)) := fun W cs h => by
        have hTW := HT.out.keep h.below
        have := indexFuncII_any 98 enters_least1 #[.pointer (some ⟨w.heap.size, 0, none⟩), .pointer (some ⟨bq, 0, none⟩)] gO t.n cO (by omega) (fun i => (W.cell? ⟨gO, i, none⟩).getD undef) (t.eqv 1 q) W
          (fun i hi => by
            obtain ⟨g, c, e, f⟩ := T4.out i hi
            have e' := (h.below.cell (p := ⟨gO, i, none⟩) (World.block_lt_of_cell? w _ e)).trans e
            rw [e']; rfl)
          (fun j i hi => by
            obtain ⟨g, c, e, f⟩ := T4.out i hi
            have e' := (h.below.cell (p := ⟨gO, i, none⟩) (World.block_lt_of_cell? w _ e)).trans e
            simp only [e', Option.getD_some]
            have hs := HS.out W cs h
            exact least1_any t hn hd T w.heap.size bq g c i q hlt (W.drewN j) hTW hs.2.1 hs.1 (fun x hx => (h.below.cell (p := ⟨g, x, none⟩) (World.block_lt_of_cell? w _ (f x hx))).trans (f x hx)))
        rwa [cls1_idx t hlt] at this
      have hmx : Try.prog.follows .mixedOrders = true := by kernel_rfl
      have HMX := Lib.hid hmx
      have HWA := Lib.hid hwa
      have HBQ := Lib.hid hbq
      clear hmx hM hbq hwa
      go_wp2_with fail
      rw [← HWA.out, ← HBQ.out]
      refine region_S (fun W => W.cell? ⟨bq, 0, none⟩ = some (.int .i64 (q : Int)) ∧ W.cell? ⟨w.heap.size, 0, none⟩ = some (.pointer (some ⟨T, 0, none⟩)) ∧ W.cell? ⟨T, 1, none⟩ = some (.slice (some ⟨gO, 0, none⟩) t.n cO)) [] 10 rfl HMX.out (HS.out _ _ hMa.drew) (fun hU => ?_)
      have hMW := hMa.drew
      obtain ⟨W, hW⟩ : ∃ W, W = wa.drew := ⟨_, rfl⟩
      rw [← hW] at hU hMW ⊢
      clear hW hMa
      (refine AnyS.take (i := 0) rfl (by kernel_rfl) (by kernel_rfl) (by kernel_rfl) (by rfl) (fun _ _ _ h => h) (by rfl) (by intro w; go_simp; with_reducible rfl) hU (fun hU => ?_); (try simp only [Act.put, List.setIfInBounds_toArray, List.set_cons_zero, List.set_cons_succ]))
      (refine AnyS.takeS (i := 1) rfl (by kernel_rfl) (by kernel_rfl) (by kernel_rfl) (by rfl) (by kernel_rfl) (by kernel_rfl) (fun _ _ _ h => h) (by rfl) (by intro W hSw; have h1 := hSw.1; clear hSw; go_simp; with_reducible rfl) hU (fun hU => ?_); (try simp only [Act.put, List.setIfInBounds_toArray, List.set_cons_zero, List.set_cons_succ]))
      (refine AnyS.takeS (i := 2) rfl (by kernel_rfl) (by kernel_rfl) (by kernel_rfl) (by rfl) (by kernel_rfl) (by kernel_rfl) (fun _ _ _ h => h) (by rfl) (by intro W hSw; have h1 := hSw.2.1; clear hSw; go_simp; with_reducible rfl) hU (fun hU => ?_); (try simp only [Act.put, List.setIfInBounds_toArray, List.set_cons_zero, List.set_cons_succ]))
      (refine AnyS.take (i := 3) rfl (by kernel_rfl) (by kernel_rfl) (by kernel_rfl) (by rfl) (fun _ _ _ h => h) (by rfl) (by intro w; go_simp; with_reducible rfl) hU (fun hU => ?_); (try simp only [Act.put, List.setIfInBounds_toArray, List.set_cons_zero, List.set_cons_succ]); refine AnyS.take (i := 4) rfl (by kernel_rfl) (by kernel_rfl) (by kernel_rfl) (by rfl) (fun _ _ _ h => h) (by rfl) (by intro w; go_simp; with_reducible rfl) hU (fun hU => ?_); (try simp only [Act.put, List.setIfInBounds_toArray, List.set_cons_zero, List.set_cons_succ]))
      (refine AnyS.takeS (i := 5) rfl (by kernel_rfl) (by kernel_rfl) (by kernel_rfl) (by rfl) (by kernel_rfl) (by kernel_rfl) (fun _ _ _ h => h) (by rfl) (by intro W hSw; have h1 := hSw.2.2; clear hSw; go_simp; with_reducible rfl) hU (fun hU => ?_); (try simp only [Act.put, List.setIfInBounds_toArray, List.set_cons_zero, List.set_cons_succ]))
      (refine AnyS.take (i := 6) rfl (by kernel_rfl) (by kernel_rfl) (by kernel_rfl) (by rfl) (fun _ _ _ h => h) (by rfl) (by intro w; go_simp; with_reducible rfl) hU (fun hU => ?_); (try simp only [Act.put, List.setIfInBounds_toArray, List.set_cons_zero, List.set_cons_succ]))
      refine AnyS.branch (rs := [7]) (by kernel_rfl) (by simp) (AllS.cons rfl (fun K hK => ?_) AllS.nil)
      go_simp
      refine (HIX.out _ _ hMW).mono ?_
      rintro e w4 ⟨rfl, a4, rfl⟩
      have hM4 := hMW.drewN a4
      refine hK.out _ _ (.inl (HS.out _ _ hM4)) (fun hU => ?_)
      clear hK K
      (try simp only [Act.put, List.setIfInBounds_toArray, List.set_cons_zero, List.set_cons_succ])
      (refine AnyS.take (i := 8) rfl (by kernel_rfl) (by kernel_rfl) (by kernel_rfl) (by rfl) (fun _ _ _ h => h) (by rfl) (by intro w; go_simp; with_reducible rfl) hU (fun hU => ?_); (try simp only [Act.put, List.setIfInBounds_toArray, List.set_cons_zero, List.set_cons_succ]))
      refine AnyS.branch (rs := [9]) (by kernel_rfl) (by simp) (AllS.cons rfl (fun K hK => ?_) AllS.nil)
      have c2 := (hM4.at 1 rfl).cell' (nvs_get (upV (t.cls 1) q) hlt)
      have f2 := (hM4.at 1 rfl).free q
      have hM5 := hM4.setCell 1 rfl q (.int .i64 (t.cls 1 q : Int))
      simp only [List.set_cons_zero, List.set_cons_succ] at hM5
      rw [nvs_set _ _ hlt, upV_set] at hM5
      have HM5 := Lib.hid hM5
      clear hM5 hMW hM4
      go_simp
      refine hK.out _ _ (.inl (HS.out _ _ HM5.out)) (fun hU => ?_)
      clear hK K c2 f2
      (try simp only [Act.put, List.setIfInBounds_toArray, List.set_cons_zero, List.set_cons_succ])
      refine AnyS.done (by kernel_rfl) ?_ _
      clear hU
      have HM6 := Lib.hid (HM5.out.sub (List.sublist_cons_self _ _))
      clear HM5
      go_wp2_with fail
      go_roundw
      case rel => exact ⟨q + 1, by omega, by go_num, HM6.out⟩
      case measure => simp [intOf] <;> omega
    · have hq' : q = t.n := by omega
      subst hq'
      rw [upV_all] at hM
      go_wp2_with fail
      go_loopg [3] (t.n * t.n) (fun gk v3 wr => ∃ k A : Nat, 1 ≤ k ∧ v3 = .slice (some ⟨A, 0, none⟩) t.n t.n ∧ Mm w.heap.size w wr [(A, nvs t.n (t.cls k), 2), (w.heap.size, [.pointer (some ⟨T, 0, none⟩)], 79)] [] ∧ Hid (t.n * t.n ≤ gk + tot (t.cls k) t.n))
      case atStart => exact ⟨1, _, Nat.le_refl _, rfl, hM, Nat.le_add_right _ _⟩
      case round =>
        clear hM
        obtain ⟨k, A, hk, rfl, hM, HG⟩ := hrel
        have hmk := mk_i64 t.n (by omega) wr
        have hM1 := hM.alloc (madeCells #[.int .i64 0] t.n) 2
        rw [made_i64, show (nvs t.n fun _ => 0) = nvs t.n (upV (t.cls (k + 1)) 0) from nvs_congr fun q _ => by simp [upV]] at hM1
        obtain ⟨A2, hA2⟩ : ∃ A2, A2 = wr.heap.size := ⟨_, rfl⟩
        rw [← hA2] at hM1
        have HA2 := Lib.hid hA2
        clear hM hA2
        go_wp2_with fail
        rw [← HA2.out]
        clear hmk
        go_loopw [6, 37] (fun s6 i wi => ∃ q : Nat, q ≤ t.n ∧ i = .int .i64 q ∧ s6 = .bool ((List.range q).all fun i => t.cls (k + 1) i == t.cls k i) ∧ Mm w.heap.size w wi [(A2, nvs t.n (upV (t.cls (k + 1)) q), 2), (A, nvs t.n (t.cls k), 2), (w.heap.size, [.pointer (some ⟨T, 0, none⟩)], 79)] []) (fun _ i _ => t.n - (intOf i).toNat)
        case atStart => exact ⟨0, Nat.zero_le _, rfl, rfl, hM1⟩
        case round =>
          clear hM1 HA2
          obtain ⟨q, hq, rfl, rfl, hM⟩ := hrel
          by_cases hqlt : q < t.n
          · have i1 : (0 : Int) ≤ (q : Int) := by omega
            have i2 : (q : Int) < (t.n : Int) := by omega
            have c1 := (hM.at 2 rfl).cell' (i := 0) rfl
            have c2 := (hM.at 0 rfl).cell' (nvs_get (upV (t.cls (k + 1)) q) hqlt)
            have f2 := (hM.at 0 rfl).free q
            have HLK : Hid (Calls Try.prog 100 #[.pointer (some ⟨T, 0, none⟩), .slice (some ⟨A, 0, none⟩) t.n t.n, .int .i64 q] wr (RetQ (.int .i64 (t.cls (k + 1) q)) wr)) :=
              like_any t hw hn hd T k hk (t.cls k) (fun _ _ => rfl) A q hqlt wr (HT.out.keep hM.below) (fun q hq => (hM.at 1 rfl).cell' (nvs_get (t.cls k) hq))
            have HX := Lib.hid (allUpto_succ (fun i => t.cls (k + 1) i == t.cls k i) q)
            generalize upV (t.cls (k + 1)) q q = old at *
            go_wp2_with fail
            refine HLK.out.mono ?_
            rintro e w1 ⟨rfl, a1, rfl⟩
            have hM1 := (hM.drewN a1).setCell 0 rfl q (.int .i64 (t.cls (k + 1) q : Int))
            simp only [List.set_cons_zero, List.set_cons_succ] at hM1
            rw [nvs_set _ _ hqlt, upV_set] at hM1
            have c3 := (hM1.at 0 rfl).cell' (nvs_get (upV (t.cls (k + 1)) (q + 1)) hqlt)
            rw [show upV (t.cls (k + 1)) (q + 1) q = t.cls (k + 1) q by simp [upV]] at c3
            have c4 := (hM1.at 1 rfl).cell' (nvs_get (t.cls k) hqlt)
            have HM1 := Lib.hid hM1
            clear hM hM1 HLK
            obtain ⟨u, hu⟩ : ∃ u, u = t.cls (k + 1) q := ⟨_, rfl⟩
            obtain ⟨v, hv⟩ : ∃ v, v = t.cls k q := ⟨_, rfl⟩
            rw [← hu] at c3 c4 HM1 HX
            rw [← hv] at c4 HX
            rw [← hu]
            have HU := Lib.hid hu
            have HV := Lib.hid hv
            clear hu hv c1
            have HY : Hid (((u : Int) == (v : Int)) = (u == v)) := by show _ = _; rw [Bool.eq_iff_iff]; simp; omega
            cases hs : (List.range q).all fun i => t.cls (k + 1) i == t.cls k i
            · rw [hs] at HX
              clear hs
              go_wp2_with fail
              go_quiet (fail)
              go_wp2_with fail
              go_roundw
              case rel => exact ⟨q + 1, by omega, by go_num, by rw [HX.out]; rfl, HM1.out.drewN _⟩
              case measure => simp [intOf] <;> omega
            · rw [hs] at HX
              clear hs
              go_wp2_with fail
              go_quiet (fail)
              go_wp2_with fail
              go_roundw
              case rel => exact ⟨q + 1, by omega, by go_num, by rw [HX.out, HY.out]; simp, HM1.out.drewN _⟩
              case measure => simp [intOf] <;> omega
          · have hq' : q = t.n := by omega
            subst hq'
            cases hs : (List.range t.n).all fun i => t.cls (k + 1) i == t.cls k i
            · have hd' := cls_differ hs
              have hle := tot_cls_le t (k + 1) t.n
              rw [upV_all] at hM
              have hM2 : Mm w.heap.size w wr [(A2, nvs t.n (t.cls (k + 1)), 2), (w.heap.size, [.pointer (some ⟨T, 0, none⟩)], 79)] [] := hM.sub (by apply List.Sublist.cons_cons; apply List.Sublist.cons; exact List.Sublist.refl _)
              have HG2 : Hid (t.n * t.n ≤ (gk - 1) + tot (t.cls (k + 1)) t.n ∧ gk - 1 < gk) := by have := HG.out; show _ ∧ _; omega
              clear hs hM hd' hle HG
              go_wp2_with fail
              go_roundg (gk - 1)
              case measure => exact HG2.out.2
              case rel => exact ⟨k + 1, A2, by omega, rfl, hM2, HG2.out.1⟩
            · have hst := cls_same hs
              have HFIN : Hid (nvs t.n (t.cls k) = i64s (finL t)) := by
                show _ = _
                rw [nvs_i64s, finL]
                congr 1
                exact List.map_congr_left fun q hq => by rw [t.fin_st hw hn1 hst (by simpa using hq)]
              have hM2 : Mm w.heap.size w wr [(A, nvs t.n (t.cls k), 2), (w.heap.size, [.pointer (some ⟨T, 0, none⟩)], 79)] [] := hM.sub (List.sublist_cons_self _ _)
              have hF := (hM2.addOwn (List.mem_cons_self ..) t.n (by simp [nvs_len]) (by omega))
              have hO := hF.own _ (List.mem_cons_self ..)
              rw [HFIN.out] at hO
              have HO : Hid (OwnI wr w.heap.size (.slice (some ⟨A, 0, none⟩) t.n t.n) (finL t)) := by
                show World.ownsRow _ _ _ _ _ _ _
                simpa [i64s] using hO
              have hbl := hM2.below
              clear hs hM hM2 hF hO hst
              go_wp2_with fail
              go_ret
              exact ⟨_, rfl, hbl, HO.out⟩
end Go.Proofs.Ythgkkaifdlkciaa

/- A group behind its pointer; newGroup. -/
namespace Go.Proofs.Ythgkkaifdlkciaa
open Go.RowKit
set_option linter.unusedVariables false
set_option linter.unusedSimpArgs false

/-! structs of several wide parts -/
end Go.Proofs.Ythgkkaifdlkciaa

/- What the laws ask of a result that is a slice of slices of numbers. -/
namespace Go.Proofs.Ythgkkaifdlkciaa
open Go.RowKit
set_option linter.unusedVariables false
set_option linter.unusedSimpArgs false

section
variable {B : Nat} {w0 w : World} {L : List (Nat × List Value × TypeId)} {G : List (Value × TypeId × List Value)}
theorem Mm.permL (h : Mm B w0 w L G) {L' : List (Nat × List Value × TypeId)} (hp : L.Perm L') : Mm B w0 w L' G :=
  ⟨h.below, h.size, fun x hx => h.blk x (hp.mem_iff.2 hx), (hp.pairwise_iff (fun h => Ne.symm h)).1 h.dist, h.own, fun x hx y hy => h.sep x hx y (hp.mem_iff.2 hy), h.gdist⟩
end

theorem OwnI.of_row {w : World} {B : Nat} {v : Value} {xs : List Int} (h : w.ownsRow B 2 1 v (i64s xs).length (i64s xs)) : OwnI w B v xs := by simpa [OwnI, i64s] using h
section
variable {B : Nat} {w0 w : World} {v : Value} {rv : List Value} {rows : List (List Int)}
end

end Go.Proofs.Ythgkkaifdlkciaa

/- The program's group: apply, normal, at, leaves. -/
namespace Go.Proofs.Ythgkkaifdlkciaa
open Go.RowKit
set_option linter.unusedVariables false
set_option linter.unusedSimpArgs false

end Go.Proofs.Ythgkkaifdlkciaa

/- The program's group: at, leaves, key. -/
namespace Go.Proofs.Ythgkkaifdlkciaa
open Go.RowKit
set_option linter.unusedVariables false
set_option linter.unusedSimpArgs false

end Go.Proofs.Ythgkkaifdlkciaa

/- A map of strings to numbers beside memory of one's own; the places of a queue. -/
namespace Go.Proofs.Ythgkkaifdlkciaa
open Go.RowKit
set_option linter.unusedVariables false
set_option linter.unusedSimpArgs false
set_option linter.unusedSectionVars false

section
variable {B : Nat} {w0 w : World} {G : List (Value × TypeId × List Value)} {b n : Nat} {f : ByteArray → Option Nat}
end

end Go.Proofs.Ythgkkaifdlkciaa

/- sections: the program's search through the sections of a word. -/
namespace Go.Proofs.Ythgkkaifdlkciaa
open Go.RowKit
set_option linter.unusedVariables false
set_option linter.unusedSimpArgs false

def natsI (r : List Nat) : Wd := r.map fun a : Nat => (a : Int)
end Go.Proofs.Ythgkkaifdlkciaa

/- Equal machines; group words of the reference and of the program. -/
namespace Go.Proofs.Ythgkkaifdlkciaa
open Go.RowKit
set_option linter.unusedVariables false
set_option linter.unusedSimpArgs false

end Go.Proofs.Ythgkkaifdlkciaa

/- IsGroupWord; desks: sizes, copies, comparisons; IsDesk of both sides. -/
namespace Go.Proofs.Ythgkkaifdlkciaa
open Go.RowKit
set_option linter.unusedVariables false
set_option linter.unusedSimpArgs false

/-! Desks -/
end Go.Proofs.Ythgkkaifdlkciaa

/- isTrivial, groupOf, DoRelationsHold of the program. -/
namespace Go.Proofs.Ythgkkaifdlkciaa
open Go.RowKit
set_option linter.unusedVariables false
set_option linter.unusedSimpArgs false

end Go.Proofs.Ythgkkaifdlkciaa

/- A region in drawn order by what holds at each set of operations that are done. -/
namespace Go.Proofs.Ythgkkaifdlkciaa
open Go.RowKit
set_option linter.unusedVariables false
set_option linter.unusedSimpArgs false
section
variable {P : Program} {ops : Array Oper} {Q : Exit → Act → World → Prop} {md : Region.Mode} {S : World → Prop} {L : List Nat}
/-- how many operations are left -/
def leftN (n : Nat) (listed : Array Bool) : Nat := ((List.range n).filter fun i => !listed.getD i true).length
theorem filter_drop {α : Type} {p q : α → Bool} : ∀ {l : List α}, (∀ x ∈ l, q x = true → p x = true) → (∃ x ∈ l, p x = true ∧ q x = false) → (l.filter q).length < (l.filter p).length
  | [], _, ⟨x, hx, _⟩ => by cases hx
  | y :: l, h, ⟨x, hx, hp, hq⟩ => by
    have hle : ∀ l : List α, (∀ x ∈ l, q x = true → p x = true) → (l.filter q).length ≤ (l.filter p).length := by
      intro l
      induction l with
      | nil => intro _; simp
      | cons z l ih =>
        intro h
        have := ih (fun x hx => h x (List.mem_cons_of_mem _ hx))
        have hz := h z (List.mem_cons_self ..)
        simp only [List.filter_cons]
        cases h1 : q z
        · cases h2 : p z <;> simp <;> omega
        · rw [hz h1]; simp; omega
    rcases List.mem_cons.1 hx with e | hx
    · subst e
      simp only [List.filter_cons, hp, hq, if_true, Bool.false_eq_true, if_false, List.length_cons]
      have := hle l (fun x hx => h x (List.mem_cons_of_mem _ hx))
      omega
    · have := filter_drop (fun x hx => h x (List.mem_cons_of_mem _ hx)) ⟨x, hx, hp, hq⟩
      have hy := h y (List.mem_cons_self ..)
      simp only [List.filter_cons]
      cases h1 : q y
      · cases h2 : p y <;> simp <;> omega
      · rw [hy h1]; simp; omega
theorem leftN_lt {listed : Array Bool} {i : Nat} (hi : i ∈ Region.ready md ops listed) : leftN ops.size (listed.setIfInBounds i true) < leftN ops.size listed := by
  obtain ⟨h0, o, ho, _⟩ := mem_ready.1 hi
  have hlt : i < ops.size := (Array.getElem?_eq_some_iff.1 ho).1
  refine filter_drop (fun x _ hx => ?_) ⟨i, by simpa using hlt, by simp [h0], ?_⟩
  · by_cases e : i = x
    · subst e; rw [h0]; rfl
    · rw [getD_set_ne true e] at hx; exact hx
  · have hs : i < listed.size := by
      rcases Nat.lt_or_ge i listed.size with h | h
      · exact h
      · simp [Array.getElem?_eq_none h] at h0
    simp [Array.getD, hs]
theorem AnyS.inv (Inv : Array Bool → Act → World → Prop) (hS : ∀ l a w, Inv l a w → S w)
    (h : ∀ l a w, Inv l a w → (∀ n, leftN ops.size l ≤ n → AnyS P md ops Q S L n l a w) ∨
      (Region.ready md ops l ≠ [] ∧ ∀ i ∈ Region.ready md ops l, wpOp P ops Q i (fun a' w' => Inv (l.setIfInBounds i true) a' w') a w)) :
    ∀ (n : Nat) (l : Array Bool) (a : Act) (w : World), Inv l a w → leftN ops.size l ≤ n → AnyS P md ops Q S L n l a w := by
  intro n
  induction n with
  | zero =>
    intro l a w hi hn
    rcases h l a w hi with h | ⟨hne, _⟩
    · exact h 0 hn
    · exfalso
      obtain ⟨i, hi⟩ := List.exists_mem_of_ne_nil _ hne
      have := leftN_lt hi
      omega
  | succ n ih =>
    intro l a w hi hn
    rcases h l a w hi with h | ⟨hne, hst⟩
    · exact h _ hn
    · refine ⟨fun e => absurd e hne, fun i hi => wpOp_mono (fun a' w' h' => ⟨.inl (hS _ _ _ h'), ih _ _ _ h' (by have := leftN_lt hi; omega)⟩) (hst i hi)⟩
end
end Go.Proofs.Ythgkkaifdlkciaa

/- The reference's group words: l02State, l02Normal, l02Step, l02Led, l02Like, l02Find. -/
namespace Go.Proofs.Ythgkkaifdlkciaa
open Go.RowKit
set_option linter.unusedVariables false
set_option linter.unusedSimpArgs false

end Go.Proofs.Ythgkkaifdlkciaa

/- The reference's group words: l02Normal, l02Like, l02Find, l02Code. -/
namespace Go.Proofs.Ythgkkaifdlkciaa
open Go.RowKit
set_option linter.unusedVariables false
set_option linter.unusedSimpArgs false

/-- the classes and the trivial states of a machine as values -/
def clsV (m : Mch) : List Value := nvs 16 (fun q => if q < m.s then m.tbl.fin q else 0)
end Go.Proofs.Ythgkkaifdlkciaa

/- l02Trivial. -/
namespace Go.Proofs.Ythgkkaifdlkciaa
open Go.RowKit
set_option linter.unusedVariables false
set_option linter.unusedSimpArgs false

theorem ite_of {c : Prop} [Decidable c] {A B : Prop} (h : c) (ha : A) : if c then A else B := by rw [if_pos h]; exact ha
theorem wp_st {P : Program} {o : Oper} {a : Act} {w : World} {K : Act → World → Prop} {Q : Exit → Act → World → Prop} (T : TypeId) (x y : Operand) (ho : o.op = .store T x y)
    (b off : Nat) (cs : List Value) (hx : a.eval x = .pointer (some ⟨b, off, none⟩)) (hy : a.eval y = .agg cs.toArray) (ht : w.there b off cs.length) (hi : (P.info? T).map (·.size) = some cs.length) (h1 : ∀ v ∈ cs, v.oneCell' = true)
    (h : K (a.put o.dst undef) (w.setCells b off cs)) : o.wp P a w K Q :=
  wp_store_mid T x y ho b off cs.toArray hx hy (by rw [List.size_toArray]; exact ht) (by rw [List.size_toArray]; exact hi) (all_oneCell_toArray h1) h
theorem all_mem {l : List Nat} {p : Nat → Bool} {i : Nat} (hi : i ∈ l) (h : l.all p = true) : p i = true := List.all_eq_true.1 h i hi
theorem ready_ne {l : List Nat} (h : l.isEmpty = false) : l ≠ [] := fun e => by subst e; cases h
theorem cls_info (m : Mch) : (Try.prog.info? 78).map (·.size) = some (clsV m).length := nvs16_info _
theorem cls_ones (m : Mch) : ∀ v ∈ clsV m, v.oneCell' = true := nvs_one _ _
theorem cls_len (m : Mch) : (clsV m).length = 16 := by simp [clsV, nvs]
/-- a new slice of one's own -/
theorem Mm.newOwn {B : Nat} {w0 w : World} {L : List (Nat × List Value × TypeId)} {G : List (Value × TypeId × List Value)} (h : Mm B w0 w L G) (cs : Array Value) (T : TypeId) (n : Nat) (hn : n = cs.toList.length) (hm : n ≤ 2000000) :
    Mm B w0 (w.alloc (.cells cs T)) L ((.slice (some ⟨w.heap.size, 0, none⟩) n n, T, cs.toList) :: G) := by
  have h2 := (h.alloc cs T).addOwn (b := w.heap.size) (cs := cs.toList) (T := T) (List.mem_cons_self ..) n hn hm
  have e : (List.filter (fun x : Nat × List Value × TypeId => x.1 != w.heap.size) ((w.heap.size, cs.toList, T) :: L)) = L := by
    rw [List.filter_cons]
    simp only [bne_self_eq_false, Bool.false_eq_true, if_false]
    rw [List.filter_eq_self]
    intro x hx
    have := (h.blk x hx).2.lt
    simp only [bne_iff_ne, ne_eq]
    omega
  rwa [e] at h2

end Go.Proofs.Ythgkkaifdlkciaa

/- DoRelationsHold of both sides. -/
namespace Go.Proofs.Ythgkkaifdlkciaa
open Go.RowKit
set_option linter.unusedVariables false
set_option linter.unusedSimpArgs false

end Go.Proofs.Ythgkkaifdlkciaa

/- Slices of slices of numbers among a law's arguments. -/
namespace Go.Proofs.Ythgkkaifdlkciaa
open Go.ChangeShapes Go.WideShapes Go.ChangeAt Go.RowKit Go.Joins
set_option linter.unusedVariables false
set_option linter.unusedSimpArgs false

section
variable {H : Type} {enc : TypeId × Value → H} {w : World} {base : Nat} {held : Bool}
end
end Go.Proofs.Ythgkkaifdlkciaa

/- The three closed facts that speak of the whole program, with few signs for the kernel: only the head of the dump's first row is read. -/
namespace Go.Proofs.Ythgkkaifdlkciaa
open Go

theorem words_app : ∀ (a r : List Char), a.all (· != ' ') = true → wordsSigns (a ++ ' ' :: r) = a :: wordsSigns r
  | [], r, _ => by simp [wordsSigns]
  | c :: a, r, h => by
    simp only [List.all_cons, Bool.and_eq_true, bne_iff_ne, ne_eq] at h
    have ih := words_app a r (by simpa using h.2)
    rw [List.cons_append, wordsSigns, ih]
    exact h.1

theorem list_cut (l p : List Char) (n : Nat) (h : l.take n = p) : l = p ++ l.drop n := by
  rw [← h, List.take_append_drop]

theorem head_words (l t : List Char) (h1 : l.take 77 = "harness".toList ++ ' ' :: (t ++ ' ' :: ("cut".toList ++ [' '])))
    (ht : isSumSigns t = true) (hs : t.all (· != ' ') = true) :
    behindMainWord (wordsSigns l) = "cut".toList :: wordsSigns (l.drop 77) := by
  have e : l = "harness".toList ++ ' ' :: (t ++ ' ' :: ("cut".toList ++ ' ' :: l.drop 77)) := by
    have := list_cut l _ 77 h1
    simpa [List.append_assoc] using this
  have e2 : wordsSigns l = "harness".toList :: t :: "cut".toList :: wordsSigns (l.drop 77) := by
    conv => lhs; rw [e]
    rw [words_app _ _ (by decide), words_app _ _ hs, words_app _ _ (by decide)]
  rw [e2, behindMainWord, ht]
  simp

theorem strip_cut : ∀ (o : List String) (ws : List (List Char)), o.all (fun x => !("cut".toList == x.toList)) = true → stripLifts o ("cut".toList :: ws) = ([], "cut".toList :: ws)
  | [], _, _ => rfl
  | x :: o, ws, h => by
    simp only [List.all_cons, Bool.and_eq_true, Bool.not_eq_true'] at h
    rw [stripLifts, h.1]
    simp only [Bool.false_eq_true, if_false]
    exact strip_cut o ws (by simpa using h.2)

theorem strip_lifts (ws : List (List Char)) : stripLifts liftWords ("cut".toList :: ws) = ([], "cut".toList :: ws) :=
  strip_cut _ _ (by decide +kernel)

theorem lifts_of (P : Program) (ws : List (List Char)) (h : behindMainWord (wordsSigns P.initOrder.toList) = "cut".toList :: ws) :
    P.liftsFinal = false := by
  unfold Program.liftsFinal Program.headLifts
  rw [h, strip_lifts]
  have : ("cut".toList == "carried".toList) = false := by decide +kernel
  simp

theorem make_of (P : Program) (ws : List (List Char)) (h : behindMainWord (wordsSigns P.initOrder.toList) = "cut".toList :: ws) :
    P.make = some .cut := by
  unfold Program.make
  rw [h]
  rfl

theorem enter_of (P : Program) (ws : List (List Char)) (h : behindMainWord (wordsSigns P.initOrder.toList) = "cut".toList :: ws)
    (h1 : P.laysLater = false) (h2 : P.bearsReflect = false) (h3 : P.doorFits [] = true) : P.mayEnter = true := by
  unfold Program.mayEnter
  rw [h]
  simp only [strip_lifts, h1, h2, h3]
  simp

theorem head_cut : behindMainWord (wordsSigns Try.checked.prog.initOrder.toList) = "cut".toList :: wordsSigns (Try.checked.prog.initOrder.toList.drop 77) :=
  head_words _ ((Try.checked.prog.initOrder.toList.drop 8).take 64) (by kernel_rfl) (by kernel_rfl) (by kernel_rfl)

theorem c_lays : Try.checked.prog.laysLater = false := by kernel_rfl
theorem c_refl : Try.checked.prog.bearsReflect = false := by kernel_rfl
theorem c_door : Try.checked.prog.doorFits [] = true := by kernel_rfl

theorem c_enter : Try.checked.prog.mayEnter = true := enter_of _ _ head_cut c_lays c_refl c_door
theorem c_lifts : Try.checked.prog.liftsFinal = false := lifts_of _ _ head_cut
theorem c_make : Try.checked.prog.make = some .cut := make_of _ _ head_cut
end Go.Proofs.Ythgkkaifdlkciaa

/- Laws whose arguments are a machine and rows of numbers. -/
namespace Go.Proofs.Ythgkkaifdlkciaa
open Go.ChangeShapes Go.WideShapes Go.ChangeAt Go.RowKit Go.Joins
set_option linter.unusedVariables false
set_option linter.unusedSimpArgs false

section
variable {H : Type} {enc : TypeId × Value → H} {w : World} {base : Nat} {held : Bool}
end
end Go.Proofs.Ythgkkaifdlkciaa

/- The minimal table: the least states of the classes, their ranks. -/
namespace Go.Proofs.Ythgkkaifdlkciaa
set_option linter.unusedVariables false
set_option linter.unusedSimpArgs false

section
variable (t : Tbl)
/-- how many least states are below q -/
def Tbl.rk (q : Nat) : Nat := ((List.range q).filter fun r => t.fin r == r).length
/-- the least states -/
def Tbl.reps : List Nat := (List.range t.n).filter fun r => t.fin r == r
/-- the number of a state in the minimal table -/
def Tbl.num (q : Nat) : Nat := t.rk (t.fin q)
variable {t}
theorem Tbl.rk_succ (q : Nat) : t.rk (q + 1) = t.rk q + if t.fin q = q then 1 else 0 := by
  simp only [Tbl.rk, List.range_succ, List.filter_append, List.length_append, List.filter_cons, List.filter_nil]
  by_cases h : t.fin q = q
  · simp [h]
  · simp [h]
theorem Tbl.rk_mono {q r : Nat} (h : q ≤ r) : t.rk q ≤ t.rk r := by
  induction r with
  | zero => rw [show q = 0 by omega]; exact Nat.le_refl _
  | succ r ih =>
    by_cases e : q = r + 1
    · rw [e]; exact Nat.le_refl _
    · have := ih (by omega)
      rw [Tbl.rk_succ]; omega
theorem Tbl.rk_le (q : Nat) : t.rk q ≤ q := by
  induction q with
  | zero => simp [Tbl.rk]
  | succ q ih => rw [Tbl.rk_succ]; split <;> omega
theorem Tbl.rk_lt {q r : Nat} (hf : t.fin q = q) (h : q < r) : t.rk q < t.rk r := by
  have h1 := t.rk_mono (show q + 1 ≤ r by omega)
  rw [Tbl.rk_succ, if_pos hf] at h1
  omega
theorem Tbl.fin_fin (q : Nat) : t.fin (t.fin q) = t.fin q := t.cls_cls t.n q
theorem Tbl.num_lt {q : Nat} (hq : q < t.n) : t.num q < t.rk t.n := t.rk_lt (t.fin_fin q) (Nat.lt_of_le_of_lt (t.fin_le q) hq)
theorem Tbl.reps_upto (q : Nat) : ∀ n, q < n → t.fin q = q → ((List.range n).filter fun r => t.fin r == r)[t.rk q]? = some q := by
  intro n
  induction n with
  | zero => intro h; omega
  | succ n ih =>
    intro h hf
    rw [List.range_succ, List.filter_append]
    by_cases e : q = n
    · subst e
      rw [List.getElem?_append_right (by exact Nat.le_refl _)]
      simp [Tbl.rk, hf]
    · have h1 := ih (by omega) hf
      rw [List.getElem?_append_left (List.getElem?_eq_some_iff.1 h1).1]
      exact h1
theorem Tbl.reps_get {q : Nat} (hq : q < t.n) (hf : t.fin q = q) : t.reps[t.rk q]? = some q := t.reps_upto q t.n hq hf
theorem Tbl.reps_num {q : Nat} (hq : q < t.n) : t.reps[t.num q]? = some (t.fin q) := t.reps_get (Nat.lt_of_le_of_lt (t.fin_le q) hq) (t.fin_fin q)
theorem Tbl.fin_next (hw : t.Wf) (hn : 1 ≤ t.n) {q x : Nat} (hq : q < t.n) (hx : x < t.d) : t.ot q x = t.ot (t.fin q) x ∧ t.fin (t.nx q x) = t.fin (t.nx (t.fin q) x) := by
  have h := t.cls_eqv (t.n + 1) q
  rw [t.fin_late hw hn (by omega) hq, Tbl.eqv_succ] at h
  have h2 := h x hx
  exact ⟨h2.1, (t.cls_iff t.n _ _).1 h2.2⟩
/-- state i of the minimal table, in the table -/
def Tbl.rep (t : Tbl) (i : Nat) : Nat := t.reps[i]?.getD 0
theorem Tbl.rep_num {q : Nat} (hq : q < t.n) : t.rep (t.num q) = t.fin q := by rw [Tbl.rep, t.reps_num hq]; rfl
theorem Tbl.rep_lt {i : Nat} (hi : i < t.rk t.n) : t.rep i < t.n ∧ t.fin (t.rep i) = t.rep i := by
  have h : i < t.reps.length := hi
  have hm := List.getElem_mem h
  rw [Tbl.rep, List.getElem?_eq_getElem h, Option.getD_some]
  simp only [Tbl.reps, List.mem_filter, List.mem_range, beq_iff_eq] at hm ⊢
  exact hm
/-- the minimal table -/
def Tbl.minT (t : Tbl) : Tbl := ⟨t.rk t.n, t.d, fun i x => t.num (t.nx (t.rep i) x), fun i x => t.ot (t.rep i) x⟩
theorem Tbl.minT_wf (hw : t.Wf) : t.minT.Wf := fun i x hi hx => t.num_lt (hw _ _ (t.rep_lt hi).1 hx)
/-- the minimal table follows the table -/
theorem Tbl.minT_next (hw : t.Wf) (hn : 1 ≤ t.n) {q x : Nat} (hq : q < t.n) (hx : x < t.d) : t.minT.nx (t.num q) x = t.num (t.nx q x) ∧ t.minT.ot (t.num q) x = t.ot q x := by
  obtain ⟨h1, h2⟩ := t.fin_next hw hn hq hx
  simp only [Tbl.minT, t.rep_num hq]
  exact ⟨by simp only [Tbl.num]; rw [h2], h1.symm⟩
end
end Go.Proofs.Ythgkkaifdlkciaa
