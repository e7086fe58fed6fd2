/- Equal states of the program: (*table).least. -/
import Derived.Test.YtmacnofkpdikiaaC1
import Derived.Test.YtmacnofkpdikiaaS1
import Derived.Test.YtmacnofkpdikiaaY2
import Derived.Deep.LoopGhost
namespace Go.Proofs.Ytmacnofkpdikiaa
open Go.RowKit
set_option linter.unusedVariables false
set_option linter.unusedSimpArgs false

/-- a table for reading -/
def TabG (w : World) (T : Nat) (t : Tbl) : Prop := ∃ gN cN gO cO, w.cell? ⟨T, 0, none⟩ = some (.slice (some ⟨gN, 0, none⟩) t.n cN) ∧ w.cell? ⟨T, 1, none⟩ = some (.slice (some ⟨gO, 0, none⟩) t.n cO) ∧
  (∀ q, q < t.n → ∃ g c, w.cell? ⟨gN, q, none⟩ = some (.slice (some ⟨g, 0, none⟩) t.d c) ∧ ∀ x, x < t.d → w.cell? ⟨g, x, none⟩ = some (.int .i64 (t.nx q x))) ∧
  (∀ q, q < t.n → ∃ g c, w.cell? ⟨gO, q, none⟩ = some (.slice (some ⟨g, 0, none⟩) t.d c) ∧ ∀ x, x < t.d → w.cell? ⟨g, x, none⟩ = some (.int .i64 (t.ot q x)))
theorem TabR.gen {w : World} {T : Nat} {m : Mch} (h : TabR w T m) : TabG w T m.tbl := h
theorem TabG.keep {w w' : World} {T : Nat} {t : Tbl} (h : TabG w T t) (hb : Below w.heap.size w w') : TabG w' T t := by
  have K : ∀ (a : Addr) (v : Value), w.cell? a = some v → w'.cell? a = some v := fun a v h => (hb.cell (World.block_lt_of_cell? w a h)).trans h
  obtain ⟨gN, cN, gO, cO, h1, h2, h3, h4⟩ := h
  refine ⟨gN, cN, gO, cO, K _ _ h1, K _ _ h2, fun q hq => ?_, fun q hq => ?_⟩
  · obtain ⟨g, c, e, f⟩ := h3 q hq; exact ⟨g, c, K _ _ e, fun x hx => K _ _ (f x hx)⟩
  · obtain ⟨g, c, e, f⟩ := h4 q hq; exact ⟨g, c, K _ _ e, fun x hx => K _ _ (f x hx)⟩
theorem TabG.lt {w : World} {T : Nat} {t : Tbl} (h : TabG w T t) : T < w.heap.size := by
  obtain ⟨gN, cN, gO, cO, h1, h2, h3, h4⟩ := h
  exact World.block_lt_of_cell? w _ h1

set_option maxHeartbeats 1000000 in
theorem slEqI_any (a b : Option Addr) (c d : Nat) (xs ys : List Int) (hx : xs.length ≤ 1000000) (w : World) (ha : IntsAt w a xs) (hb : IntsAt w b ys) :
    Calls Try.prog 118 #[.slice a xs.length c, .slice b ys.length d] w (RetQ (.bool (decide (xs = ys))) w) := by
  have HA := Lib.hid ha
  have HB := Lib.hid hb
  clear ha hb
  go_enter Try.func118, Try.ntmps118
  by_cases hl : xs.length = ys.length
  · have hle : ((xs.length : Int) == (ys.length : Int)) = true := by simp; omega
    have hln : ((xs.length : Int) != (ys.length : Int)) = false := by simp; omega
    go_wp2_with fail
    go_loopw [13] (fun i wr => ∃ k : Nat, k ≤ xs.length ∧ i = .int .i64 k ∧ Hid (∃ n, wr = w.drewN n) ∧ Hid (∀ j, j < k → xs[j]? = ys[j]?)) (fun i _ => xs.length - (intOf i).toNat)
    case atStart => exact ⟨0, Nat.zero_le _, rfl, ⟨0, rfl⟩, fun j hj => by omega⟩
    case round =>
      obtain ⟨k, hk, rfl, HW, HE⟩ := hrel
      by_cases hlt : k < xs.length
      · obtain ⟨g, off, rfl, hc⟩ := HA.out k hlt
        obtain ⟨g', off', rfl, hc'⟩ := HB.out k (by omega)
        have hcell : ∀ a, wr.cell? a = w.cell? a := fun a => by obtain ⟨n, hn⟩ := HW.out; rw [hn]; rfl
        rw [← hcell] at hc hc'
        clear hcell
        have i1 : (0 : Int) ≤ (k : Int) := by omega
        have i2 : (k : Int) < (xs.length : Int) := by omega
        have i3 : (k : Int) < (ys.length : Int) := by omega
        have i4 : k < ys.length := by omega
        obtain ⟨x, hx⟩ : ∃ x, x = xs[k]?.getD 0 := ⟨_, rfl⟩
        obtain ⟨y, hy⟩ : ∃ y, y = ys[k]?.getD 0 := ⟨_, rfl⟩
        rw [← hx] at hc
        rw [← hy] at hc'
        by_cases e : x = y
        · have HN : Hid (∀ j, j < k + 1 → xs[j]? = ys[j]?) := fun j hj => by
            by_cases h : j = k
            · subst h
              rw [List.getElem?_eq_getElem hlt, List.getElem?_eq_getElem i4] at *
              simp only [Option.getD_some] at hx hy
              rw [← hx, ← hy, e]
            · exact HE.out j (by omega)
          subst e
          clear hx hy
          go_wp2_with fail
          go_quiet (fail)
          go_wp2_with fail
          go_roundw
          case rel => exact ⟨k + 1, by omega, by go_num, by obtain ⟨n, hn⟩ := HW.out; rw [hn]; exact dN2 _ _ _, HN⟩
          case measure => simp [intOf] <;> omega
        · have H : Hid (decide (xs = ys) = false) := by
            show _ = _
            simp only [decide_eq_false_iff_not]; intro h; rw [h] at hx; exact e (hx.trans hy.symm)
          have e' : (x != y) = true := by simpa using e
          clear e hx hy
          go_wp2_with fail
          go_quiet (fail)
          go_wp2_with fail
          go_ret
          exact ⟨ret_bool H.out.symm, by obtain ⟨n, hn⟩ := HW.out; rw [hn]; exact dN2 _ _ _⟩
      · have H : Hid (decide (xs = ys) = true) := by
          show _ = _
          simp only [decide_eq_true_eq]
          apply List.ext_getElem?
          intro j
          by_cases hj : j < k
          · exact HE.out j hj
          · rw [List.getElem?_eq_none (by omega), List.getElem?_eq_none (by omega)]
        go_wp2_with fail
        go_ret
        exact ⟨ret_bool H.out.symm, HW.out⟩
  · have H : Hid (decide (xs = ys) = false) := by
      show _ = _
      simp only [decide_eq_false_iff_not]; intro e; rw [e] at hl; exact hl rfl
    have hle : ((xs.length : Int) == (ys.length : Int)) = false := by simp; omega
    have hln : ((xs.length : Int) != (ys.length : Int)) = true := by simp; omega
    clear hl
    go_wp2_with fail
    go_ret
    exact ⟨ret_bool H.out.symm, 0, rfl⟩

/-- the outputs of a state -/
def rowL (t : Tbl) (q : Nat) : List Int := (List.range t.d).map fun x => (t.ot q x : Int)
theorem rowL_len (t : Tbl) (q : Nat) : (rowL t q).length = t.d := by simp [rowL]
theorem rowL_get (t : Tbl) (q : Nat) {x : Nat} (h : x < t.d) : (rowL t q)[x]?.getD 0 = (t.ot q x : Int) := by simp [rowL, h]
theorem rowL_eqv (t : Tbl) (q r : Nat) : decide (rowL t r = rowL t q) = t.eqv 1 q r := by
  rw [Bool.eq_iff_iff, decide_eq_true_eq, Tbl.eqv_succ]
  constructor
  · intro h x hx
    refine ⟨?_, rfl⟩
    have := congrArg (fun l : List Int => l[x]?.getD 0) h
    simp only [rowL_get t _ hx] at this
    omega
  · intro h
    apply List.map_congr_left
    intro x hx
    have := (h x (by simpa using hx)).1
    omega

theorem enters_least1 : Enters 117 := fun args w => by kernel_rfl
set_option maxRecDepth 100000 in
set_option maxHeartbeats 1000000 in
theorem least1_any (t : Tbl) (hn : t.n ≤ 1000) (hd : t.d ≤ 100) (T p1 p4 : Nat) (g c r q : Nat) (hq : q < t.n) (w : World) (hT : TabG w T t) (h1 : w.cell? ⟨p1, 0, none⟩ = some (.pointer (some ⟨T, 0, none⟩))) (h4 : w.cell? ⟨p4, 0, none⟩ = some (.int .i64 q))
    (hrow : ∀ x, x < t.d → w.cell? ⟨g, x, none⟩ = some (.int .i64 (t.ot r x))) :
    Calls Try.prog 117 #[.slice (some ⟨g, 0, none⟩) t.d c, .pointer (some ⟨p1, 0, none⟩), .pointer (some ⟨p4, 0, none⟩)] w (RetQ (.bool (t.eqv 1 q r)) w) := by
  obtain ⟨gN, cN, gO, cO, t1, t2, t3, t4⟩ := hT
  obtain ⟨g', c', e, f⟩ := t4 q hq
  have HEQ : Hid (∀ n, Calls Try.prog 118 #[.slice (some ⟨g, 0, none⟩) t.d c, .slice (some ⟨g', 0, none⟩) t.d c'] (w.drewN n) (RetQ (.bool (t.eqv 1 q r)) (w.drewN n))) := fun n => by
    have := slEqI_any (some ⟨g, 0, none⟩) (some ⟨g', 0, none⟩) c c' (rowL t r) (rowL t q) (by rw [rowL_len]; omega) (w.drewN n)
      (fun i hi => ⟨g, 0, rfl, by rw [rowL_len] at hi; rw [rowL_get t _ hi, Nat.zero_add]; exact hrow i hi⟩) (fun i hi => ⟨g', 0, rfl, by rw [rowL_len] at hi; rw [rowL_get t _ hi, Nat.zero_add]; exact f i hi⟩)
    rw [rowL_len, rowL_len, rowL_eqv] at this
    exact this
  have i1 : (0 : Int) ≤ (q : Int) := by omega
  have i2 : (q : Int) < (t.n : Int) := by omega
  clear t3 t4 f hrow t1
  go_enter Try.func117, Try.ntmps117
  go_wp2_with fail
  go_quiet ((go_at_call 118; exact Calls.quiet_of (HEQ.out _)))
  go_wp2_with fail
  go_ret
  exact ⟨rfl, _, rfl⟩

/-- the first number below n that p lets in, or -1 -/
def idxN (p : Nat → Bool) (n : Nat) : Int := match (List.range n).find? p with | some i => (i : Int) | none => -1
theorem idxN_hit {p : Nat → Bool} {n k : Nat} (hk : k < n) (h1 : p k = true) (h2 : ∀ j, j < k → p j = false) : idxN p n = k := by
  have : (List.range n).find? p = some k := by
    rw [List.find?_range_eq_some]
    exact ⟨h1, by simpa using hk, fun j hj => by rw [h2 j hj]; rfl⟩
  rw [idxN, this]
theorem idxN_none {p : Nat → Bool} {n : Nat} (h : ∀ j, j < n → p j = false) : idxN p n = -1 := by
  have : (List.range n).find? p = none := by
    rw [List.find?_eq_none]
    intro x hx
    rw [h x (by simpa using hx)]; decide
  rw [idxN, this]

set_option maxRecDepth 100000 in
set_option maxHeartbeats 1000000 in
theorem indexFuncII_any (k : Nat) (hent : Enters k) (cap : Array Value) (g n c : Nat) (hn : n ≤ 1000000) (rv : Nat → Value) (p : Nat → Bool) (w : World)
    (hc : ∀ i, i < n → w.cell? ⟨g, i, none⟩ = some (rv i)) (hf : ∀ j i, i < n → Calls Try.prog k (#[rv i] ++ cap) (w.drewN j) (RetQ (.bool (p i)) (w.drewN j))) :
    Calls Try.prog 116 #[.slice (some ⟨g, 0, none⟩) n c, .func (.func k) #[] cap] w (RetQ (.int .i64 (idxN p n)) w) := by
  have hent' : ∀ args w, Sem.run Try.prog (callFunc k args) w = .ok (.enter k args) w := hent
  have HC := Lib.hid hc
  have HF := Lib.hid hf
  clear hc hf hent
  go_enter Try.func116, Try.ntmps116
  go_wp2_with fail
  go_loopw [8] (fun i wr => ∃ j : Nat, j ≤ n ∧ i = .int .i64 j ∧ Hid (∃ m, wr = w.drewN m) ∧ Hid (∀ i, i < j → p i = false)) (fun i _ => n - (intOf i).toNat)
  case atStart => exact ⟨0, Nat.zero_le _, rfl, ⟨0, rfl⟩, fun i hi => by omega⟩
  case round =>
    obtain ⟨j, hj, rfl, HW, HI⟩ := hrel
    by_cases hlt : j < n
    · have hcell := HC.out j hlt
      have hcw : wr.cell? ⟨g, j, none⟩ = w.cell? ⟨g, j, none⟩ := by obtain ⟨n, hn⟩ := HW.out; rw [hn]; rfl
      rw [← hcw] at hcell
      have i1 : (j : Int) < (n : Int) := by omega
      have i2 : (0 : Int) ≤ (j : Int) := by omega
      have hcall : Hid (Calls Try.prog k (#[rv j] ++ cap) wr (RetQ (.bool (p j)) wr)) := by
        obtain ⟨n, hn⟩ := HW.out; rw [hn]; exact HF.out n j hlt
      generalize rv j = v at *
      clear hcw
      go_wp2_with fail
      refine hcall.out.mono ?_
      rintro e w1 ⟨rfl, HW1⟩
      have HW2 : Hid (∃ m, w1 = w.drewN m) := by obtain ⟨a, ha⟩ := HW1; obtain ⟨b, hb⟩ := HW.out; rw [ha, hb]; exact dN2 _ _ _
      clear HW1 hcall hcell
      cases hp : p j
      · have HJ : Hid (∀ i, i < j + 1 → p i = false) := fun i hi => by
          by_cases e : i = j
          · subst e; exact hp
          · exact HI.out i (by omega)
        clear hp
        go_wp2_with fail
        go_roundw
        case rel => exact ⟨j + 1, by omega, by go_num, HW2, HJ⟩
        case measure => simp [intOf] <;> omega
      · have HJ := Lib.hid (idxN_hit hlt hp HI.out)
        clear hp
        go_wp2_with fail
        go_ret
        exact ⟨ret_int HJ.out.symm, HW2.out⟩
    · have HJ := Lib.hid (idxN_none (p := p) (n := n) (fun i hi => HI.out i (by omega)))
      have hj' : ¬ (j : Int) < n := by omega
      go_wp2_with fail
      go_ret
      exact ⟨ret_int HJ.out.symm, HW.out⟩
end Go.Proofs.Ytmacnofkpdikiaa
