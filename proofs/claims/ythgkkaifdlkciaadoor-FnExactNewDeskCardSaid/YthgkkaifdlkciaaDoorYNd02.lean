import Derived.Test.YthgkkaifdlkciaaDoorYNd01
import Derived.Lib.ConvBytes
import Derived.Laws.BytesArg
import Derived.StillTailTactics
import Derived.IntWalk
import Derived.Lib.Split
import Derived.Lib.Join
import Derived.Lib.IndexMore
import Derived.Maps.AppendAt
import Derived.Laws.AppendOwnNone
/- IsMachine and its reference: both ask whether a struct is a machine. -/
namespace Go.Proofs.YthgkkaifdlkciaaDoor
open Go.RowKit
set_option linter.unusedVariables false
set_option linter.unusedSimpArgs false

theorem and_bit : ∀ t, t < 8 → ∀ o, o < 3 → (bits BinOp.and IntKind.i64 ((t : Nat) / 2 ^ o) 1 == 1) = (t : Nat).testBit o := by decide
theorem or_bit : ∀ t, t < 8 → ∀ o, o < 3 → bits BinOp.or IntKind.i64 (t : Nat) (wrap64 (2 ^ o)) = ((t ||| 2 ^ o : Nat) : Int) ∧ (t ||| 2 ^ o : Nat) < 8 := by decide +kernel

/-- the letters that a state has put out before x, as a mask -/
def SeenM (m : Mch) (q k t : Nat) : Prop := t < 8 ∧ ∀ v, v < 3 → t.testBit v = (List.range k).any fun y => decide (m.o q y = (v : Int))

theorem SeenM.zero (m : Mch) (q : Nat) : SeenM m q 0 0 := ⟨by omega, by simp⟩

theorem SeenM.step {m : Mch} {q k t o : Nat} (h : SeenM m q k t) (ho : m.o q k = (o : Int)) (hlt : o < 3) : SeenM m q (k + 1) (t ||| 2 ^ o) := by
  refine ⟨(or_bit t h.1 o hlt).2, fun v hv => ?_⟩
  rw [Nat.testBit_or, h.2 v hv, List.range_succ, List.any_append, Nat.testBit_two_pow]
  simp only [List.any_cons, List.any_nil, Bool.or_false, ho]
  congr 1
  simp
  omega

theorem SeenM.all {m : Mch} {q k t o : Nat} (h : SeenM m q k t) (ho : m.o q k = (o : Int)) (hlt : o < 3) :
    ((List.range k).all fun y => m.o q y != m.o q k) = !t.testBit o := by
  rw [h.2 o hlt, List.not_any_eq_all_not, ho]
  congr 1

def rowUpto (m : Mch) (q k : Nat) : Bool := (List.range k).all fun x => entryP m q x
theorem rowUpto_succ (m : Mch) (q k : Nat) : rowUpto m q (k + 1) = (rowUpto m q k && entryP m q k) := by
  simp [rowUpto, List.range_succ, List.all_append]
theorem row_false {m : Mch} {q k : Nat} (hk : k < 3) (h : entryP m q k = false) : rowP m q = false := by
  rw [rowP, List.all_eq_false]
  exact ⟨k, by simpa using hk, by simp [h]⟩

theorem entry_idle {m : Mch} {q k : Nat} (h : ¬ ((q : Int) < m.S ∧ (k : Int) < m.L)) : entryP m q k = (decide (m.n q k = 0) && decide (m.o q k = 0)) := by
  have : (decide (m.S ≤ (q : Int)) || decide (m.L ≤ (k : Int))) = true := by
    rw [Bool.or_eq_true, decide_eq_true_eq, decide_eq_true_eq]; omega
  simp only [entryP, this, if_true]
  rw [Bool.eq_iff_iff]
  simp
theorem entry_act {m : Mch} {q k : Nat} (h : (q : Int) < m.S ∧ (k : Int) < m.L) :
    entryP m q k = (decide (m.n q k < m.S) && decide (m.o q k < m.L) && (List.range k).all fun y => m.o q y != m.o q k) := by
  have : (decide (m.S ≤ (q : Int)) || decide (m.L ≤ (k : Int))) = false := by
    rw [Bool.or_eq_false_iff, decide_eq_false_iff_not, decide_eq_false_iff_not]; omega
  simp only [entryP, this]
  simp

def RowPost (m : Mch) (q : Nat) (w : World) (e : Ending) (w' : World) : Prop := e = .returned (.bool (rowP m q)) ∧ ∃ n, w' = w.drewN n

set_option maxHeartbeats 2000000 in
theorem isRow_any (b o : Nat) (m : Mch) (hwf : m.Wf) (q : Nat) (hq : q < 16) (w : World) (hm : MAt w b o m) (hL : m.L ≤ 3) :
    Calls Tryd.prog 37 #[.pointer (some ⟨b, o, none⟩), .int .i64 q] w (RowPost m q w) := by
  have hl := hm.l
  have hs := hm.s
  go_enter Tryd.func37, Tryd.ntmps37
  go_wp2
  go_loopw [4, 5, 9] (fun r s x wr => ∃ k : Nat, ∃ t n : Nat, k ≤ 3 ∧ x = .int .i64 k ∧ s = .int .i64 t ∧ rowUpto m q k = true ∧ (((q : Int) < m.S → (k : Int) ≤ m.L → SeenM m q k t)) ∧ r = .bool false ∧ wr = w.drewN n) (fun _ _ x _ => 3 - (intOf x).toNat)
  case atStart => exact ⟨0, 0, 0, by omega, rfl, rfl, rfl, fun _ _ => SeenM.zero _ _, rfl, rfl⟩
  case round =>
    obtain ⟨k, t, n, hk, rfl, rfl, hu, hsn, rfl, rfl⟩ := hrel
    have HU := Lib.hid hu
    have HS := Lib.hid hsn
    clear hu hsn
    by_cases hlt : k < 3
    · have e2 := hm.nn hwf hq hlt
      have e3 := hm.oo hwf hq hlt
      have b2 : 0 ≤ m.n q k ∧ m.n q k ≤ 255 := hwf.nb (q * 3 + k)
      have b3 : 0 ≤ m.o q k ∧ m.o q k ≤ 255 := hwf.ob (q * 3 + k)
      have i1 : (q : Int) < 16 := by omega
      have i2 : (0 : Int) ≤ (q : Int) := by omega
      have i3 : (k : Int) < 3 := by omega
      have i4 : (0 : Int) ≤ (k : Int) := by omega
      clear hm
      obtain ⟨N, hN⟩ : ∃ N, N = m.n q k := ⟨_, rfl⟩
      obtain ⟨O, hO⟩ : ∃ O, O = m.o q k := ⟨_, rfl⟩
      rw [← hN] at e2 b2
      rw [← hO] at e3 b3
      have HN := Lib.hid hN
      have HO := Lib.hid hO
      clear hN hO
      by_cases hact : (q : Int) < m.S ∧ (k : Int) < m.L
      · have HA := entry_act hact
        rw [← HN.out, ← HO.out] at HA
        obtain ⟨a1, a2⟩ := hact
        by_cases c1 : N < m.S
        · by_cases c2 : O < m.L
          · obtain ⟨o', ho'⟩ : ∃ o' : Nat, O = o' := ⟨O.toNat, by omega⟩
            subst ho'
            have ho3 : o' < 3 := by omega
            have hS := HS.out a1 (by omega)
            have hall := hS.all HO.out.symm ho3
            have hab := and_bit t hS.1 o' ho3
            have hob := (or_bit t hS.1 o' ho3).1
            have hstep := Lib.hid (hS.step HO.out.symm ho3)
            have HOB := Lib.hid hob
            rw [HO.out, hall, ← hab] at HA
            clear hall hab hob hS
            have HA' := Lib.hid HA
            clear HA
            by_cases c3 : (bits BinOp.and IntKind.i64 ((t : Int) / 2 ^ o') 1 == 1) = true
            · have hf : rowP m q = false := row_false hlt (by rw [HA'.out, c3]; simp)
              have HF := Lib.hid hf
              clear hf
              go_wp2
              go_quiet (fail)
              go_wp2
              go_ret
              exact ⟨ret_bool HF.out.symm, _, rfl⟩
            · have c3' : (bits BinOp.and IntKind.i64 ((t : Int) / 2 ^ o') 1 == 1) = false := by simpa using c3
              clear c3
              have hf : rowUpto m q (k + 1) = true := by rw [rowUpto_succ, HU.out, HA'.out, c3']; simp [c1, ← HO.out, c2]
              have HF := Lib.hid hf
              clear hf
              go_wp2
              go_quiet (fail)
              go_wp2
              go_roundw
              case rel => exact ⟨k + 1, t ||| 2 ^ o', _, by omega, by go_num, by rw [HOB.out], HF.out, fun _ _ => hstep.out, rfl, rfl⟩
              case measure => simp [intOf]; omega
          · have hf : rowP m q = false := row_false hlt (by rw [HA]; simp [c2])
            have HF := Lib.hid hf
            clear hf HA
            go_wp2
            go_quiet (fail)
            go_wp2
            go_ret
            exact ⟨ret_bool HF.out.symm, _, rfl⟩
        · have hf : rowP m q = false := row_false hlt (by rw [HA]; simp [c1])
          have HF := Lib.hid hf
          clear hf HA
          go_wp2
          go_quiet (fail)
          go_wp2
          go_ret
          exact ⟨ret_bool HF.out.symm, _, rfl⟩
      · have HA := entry_idle hact
        rw [← HN.out, ← HO.out] at HA
        have hno : (q : Int) < m.S → (k : Int) + 1 ≤ m.L → False := fun a c => hact ⟨a, by omega⟩
        have HNO := Lib.hid hno
        clear hno
        have HA' := Lib.hid HA
        clear HA
        by_cases c1 : N = 0
        · by_cases c2 : (O != 0) = true
          · have hf : rowP m q = false := row_false hlt (by rw [HA'.out]; simp at c2; simp [c2])
            have HF := Lib.hid hf
            clear hf
            by_cases c4 : m.S ≤ (q : Int)
            all_goals (go_wp2; go_quiet (fail); go_wp2; go_ret; exact ⟨ret_bool HF.out.symm, _, rfl⟩)
          · have c2' : (O != 0) = false := by simpa using c2
            clear c2
            have hf : rowUpto m q (k + 1) = true := by rw [rowUpto_succ, HU.out, HA'.out]; simp at c2'; simp [c1, c2']
            have HF := Lib.hid hf
            clear hf
            by_cases c4 : m.S ≤ (q : Int)
            · go_wp2
              go_quiet (fail)
              go_wp2
              go_roundw
              case rel => exact ⟨k + 1, t, _, by omega, by go_num, rfl, HF.out, fun a c => (HNO.out a (by omega)).elim, rfl, rfl⟩
              case measure => simp [intOf]; omega
            · go_wp2
              go_quiet (fail)
              go_wp2
              go_roundw
              case rel => exact ⟨k + 1, t, _, by omega, by go_num, rfl, HF.out, fun a c => (HNO.out a (by omega)).elim, rfl, rfl⟩
              case measure => simp [intOf]; omega
        · have hf : rowP m q = false := row_false hlt (by rw [HA'.out]; simp [c1])
          have HF := Lib.hid hf
          clear hf
          by_cases c4 : m.S ≤ (q : Int)
          all_goals (go_wp2; go_quiet (fail); go_wp2; go_ret; exact ⟨ret_bool HF.out.symm, _, rfl⟩)
    · have hk3 : k = 3 := by omega
      subst hk3
      have HF := Lib.hid (show rowP m q = true from HU.out)
      go_wp2
      go_ret
      exact ⟨ret_bool HF.out.symm, _, rfl⟩
end Go.Proofs.YthgkkaifdlkciaaDoor

/- IsMachine and its reference. -/
namespace Go.Proofs.YthgkkaifdlkciaaDoor
open Go.RowKit
set_option linter.unusedVariables false
set_option linter.unusedSimpArgs false

theorem MAt.alloc {w : World} {b o : Nat} {m : Mch} (h : MAt w b o m) (hb : b < w.heap.size) (ob : Obj) : MAt (w.alloc ob) b o m :=
  fun j v hj => (World.cell?_alloc_past _ _ _ hb).trans (h j v hj)
theorem MAt.setCell {w : World} {b o : Nat} {m : Mch} (h : MAt w b o m) {a : Addr} (hb : b ≠ a.block) (u : Value) : MAt (w.setCell a u) b o m :=
  fun j v hj => (World.cell?_setCell_other _ _ _ _ (by intro e; apply hb; rw [e])).trans (h j v hj)

def rowsUpto (m : Mch) (k : Nat) : Bool := (List.range k).all fun q => rowP m q
theorem rowsUpto_succ (m : Mch) (k : Nat) : rowsUpto m (k + 1) = (rowsUpto m k && rowP m k) := by
  simp [rowsUpto, List.range_succ, List.all_append]
theorem mach_false {m : Mch} {k : Nat} (hk : k < 16) (h : rowP m k = false) : machP m = false := by
  have : (List.range 16).all (fun q => rowP m q) = false := by
    rw [List.all_eq_false]
    exact ⟨k, by simpa using hk, by simp [h]⟩
  simp [machP, this]

set_option maxHeartbeats 1000000 in
theorem IsMachine_any (m : Mch) (hwf : m.Wf) (w : World) :
    Calls Tryd.prog 29 #[.agg m.cells.toArray] w (Ret (.bool (machP m)) w) := by
  have hm := MAt.boxed w m 25
  have hl : (w.alloc (.cells m.cells.toArray 25)).cell? ⟨w.heap.size, 0, none⟩ = some (.int .i64 m.L) := hm.l
  have hs : (w.alloc (.cells m.cells.toArray 25)).cell? ⟨w.heap.size, 1, none⟩ = some (.int .i64 m.S) := hm.s
  have hb0 : Below w.heap.size w (w.alloc (.cells m.cells.toArray 25)) := (Below.refl _ _).alloc (Nat.le_refl _) _
  have HF : Hid (inR m.L 2 3 = false → machP m = false) := fun h => by simp [machP, h]
  have HF2 : Hid (inR m.S 1 16 = false → machP m = false) := fun h => by simp [machP, h]
  by_cases c1 : inR m.L 2 3 = true
  · by_cases c2 : inR m.S 1 16 = true
    · have hL : m.L ≤ 3 := by simp [inR] at c1; omega
      have HT : Hid (rowsUpto m 16 = true → machP m = true) := fun h => by simp [machP, c1, c2]; simpa [rowsUpto] using h
      go_enter Tryd.func29, Tryd.ntmps29
      go_wp2_with (first | (go_at_call 35; refine (areLetters_any _ _).mono ?_; rintro e w' ⟨rfl, rfl⟩) | (go_at_call 36; refine (within_any _ _ _ _).mono ?_; rintro e w' ⟨rfl, rfl⟩))
      go_loopw [2, 14] (fun r x wr => ∃ k n : Nat, k ≤ 16 ∧ x = .int .i64 k ∧ rowsUpto m k = true ∧ r = .bool false ∧ wr = (w.alloc (.cells m.cells.toArray 25)).drewN n) (fun _ x _ => 16 - (intOf x).toNat)
      case atStart => exact ⟨0, 0, by omega, rfl, rfl, rfl, rfl⟩
      case round =>
        obtain ⟨k, n, hk, rfl, hu, rfl, rfl⟩ := hrel
        have HU := Lib.hid hu
        clear hu
        by_cases hlt : k < 16
        · have i1 : (k : Int) < 16 := by omega
          go_wp2_with (go_at_call 37; refine (isRow_any _ 0 m hwf k hlt _ (hm.drewN n) hL).mono ?_; rintro e w' ⟨rfl, n', rfl⟩)
          · have hr : (!rowP m k) = true := by assumption
            go_ret
            exact ⟨ret_bool (mach_false hlt (by simpa using hr)).symm, below_dN hb0 _⟩
          · have hr : (!rowP m k) = false := by assumption
            go_roundw
            case rel => exact ⟨k + 1, _, by omega, by go_num, by rw [rowsUpto_succ, HU.out]; simpa using hr, rfl, rfl⟩
            case measure => simp [intOf]; omega
        · have hk16 : k = 16 := by omega
          subst hk16
          go_wp2
          go_ret
          exact ⟨ret_bool (HT.out HU.out).symm, below_dN hb0 _⟩
    · go_enter Tryd.func29, Tryd.ntmps29
      go_wp2_with (first | (go_at_call 35; refine (areLetters_any _ _).mono ?_; rintro e w' ⟨rfl, rfl⟩) | (go_at_call 36; refine (within_any _ _ _ _).mono ?_; rintro e w' ⟨rfl, rfl⟩))
      go_ret
      exact ⟨ret_bool (HF2.out (by simpa using c2)).symm, hb0⟩
  · go_enter Tryd.func29, Tryd.ntmps29
    go_wp2_with (first | (go_at_call 35; refine (areLetters_any _ _).mono ?_; rintro e w' ⟨rfl, rfl⟩) | (go_at_call 36; refine (within_any _ _ _ _).mono ?_; rintro e w' ⟨rfl, rfl⟩))
    go_ret
    exact ⟨ret_bool (HF.out (by simpa using c1)).symm, hb0⟩
end Go.Proofs.YthgkkaifdlkciaaDoor

/- Codes of machines, words and states; looking for an element by a function. -/
namespace Go.Proofs.YthgkkaifdlkciaaDoor
open Go.RowKit
set_option linter.unusedVariables false
set_option linter.unusedSimpArgs false

theorem out_nat (b o : Nat) (m : Mch) (hwf : m.Wf) (q x : Nat) (hq : q < 16) (hx : x < 3) (w : World) (hm : MAt w b o m) :
    Calls Tryd.prog 39 #[.pointer (some ⟨b, o, none⟩), .int .i64 q, .int .i64 x] w fun e w' => e = .returned (.int .i64 (m.o q x)) ∧ w = w' := by
  have e3 := hm.oo hwf hq hx
  have b3 : 0 ≤ m.o q x ∧ m.o q x ≤ 255 := hwf.ob (q * 3 + x)
  have i1 : (q : Int) < 16 := by omega
  have i2 : (x : Int) < 3 := by omega
  go_enter Tryd.func39, Tryd.ntmps39
  go_wp2
  go_ret
  exact ⟨rfl, rfl⟩

theorem out_any (b o : Nat) (m : Mch) (hwf : m.Wf) (q x : Int) (hq : 0 ≤ q ∧ q < 16) (hx : 0 ≤ x ∧ x < 3) (w : World) (hm : MAt w b o m) :
    Calls Tryd.prog 39 #[.pointer (some ⟨b, o, none⟩), .int .i64 q, .int .i64 x] w fun e w' => e = .returned (.int .i64 (m.o q.toNat x.toNat)) ∧ w = w' := by
  have := out_nat b o m hwf q.toNat x.toNat (by omega) (by omega) w hm
  rwa [Int.toNat_of_nonneg hq.1, Int.toNat_of_nonneg hx.1] at this
/-- function k is entered by a call -/
def Enters (k : Nat) : Prop := ∀ args w, Sem.run Tryd.prog (callFunc k args) w = .ok (.enter k args) w
/-- a slice of ints that reads as xs -/
def IntsAt (w : World) (a : Option Addr) (xs : List Int) : Prop := ∀ i, i < xs.length → ∃ b off, a = some ⟨b, off, none⟩ ∧ w.cell? ⟨b, off + i, none⟩ = some (.int .i64 (xs[i]?.getD 0))
theorem IntsAt.keep {w w' : World} {a : Option Addr} {xs : List Int} (h : IntsAt w a xs) (hb : Below w.heap.size w w') : IntsAt w' a xs := fun i hi => by
  obtain ⟨b, off, ha, hc⟩ := h i hi
  exact ⟨b, off, ha, (hb.cell (p := ⟨b, off + i, none⟩) (World.block_lt_of_cell? w _ hc)).trans hc⟩

theorem IntsAt.below {w w' : World} {a : Option Addr} {xs : List Int} (h : IntsAt w a xs) (hb : Below w.heap.size w w') : IntsAt w' a xs := h.keep hb

end Go.Proofs.YthgkkaifdlkciaaDoor

/- The reference's IsMachine. -/
namespace Go.Proofs.YthgkkaifdlkciaaDoor
open Go.RowKit
set_option linter.unusedVariables false
set_option linter.unusedSimpArgs false

/-- the letters that a state has put out before x -/
def metB (m : Mch) (q k v : Nat) : Bool := (List.range k).any fun y => decide (m.o q y = (v : Int))
theorem metB_all {m : Mch} {q k o : Nat} (ho : m.o q k = (o : Int)) : ((List.range k).all fun y => m.o q y != m.o q k) = !metB m q k o := by
  rw [metB, List.not_any_eq_all_not, ho]
  congr 1
theorem metB_succ {m : Mch} {q k o : Nat} (ho : m.o q k = (o : Int)) (v : Nat) : metB m q (k + 1) v = (metB m q k v || decide (v = o)) := by
  simp only [metB, List.range_succ, List.any_append, List.any_cons, List.any_nil, Bool.or_false, ho]
  congr 1
  simp
  omega

/-- the array of the letters met, at block B -/
structure MetAt (w : World) (B : Nat) (m : Mch) (q j : Nat) : Prop where
  val : ∀ v, v < 3 → (q : Int) < m.S → (j : Int) ≤ m.L → w.cell? ⟨B, v, none⟩ = some (.bool (metB m q j v))
  some : ∀ v, v < 3 → ∃ u, w.cell? ⟨B, v, none⟩ = some (.bool u)
  free : ∀ v, v < 3 → w.frozen? ⟨B, v, none⟩ = false

theorem MetAt.step {w : World} {B : Nat} {m : Mch} {q j o : Nat} (h : MetAt w B m q j) (ho : m.o q j = (o : Int)) (h3 : o < 3) (n : Nat) :
    MetAt ((w.drewN n).setCell ⟨B, o, none⟩ (.bool true)) B m q (j + 1) := by
  have hc : ∀ v, v < 3 → v ≠ o → ((w.drewN n).setCell ⟨B, o, none⟩ (.bool true)).cell? ⟨B, v, none⟩ = w.cell? ⟨B, v, none⟩ := fun v hv hne =>
    World.cell?_setCell_other _ _ _ _ (by simp only [ne_eq, Addr.mk.injEq, true_and, and_true]; omega)
  have hs : ((w.drewN n).setCell ⟨B, o, none⟩ (.bool true)).cell? ⟨B, o, none⟩ = Option.some (.bool true) := by
    obtain ⟨u, hu⟩ := h.some o h3
    exact World.cell?_setCell_same _ _ _ (u := .bool u) hu
  refine ⟨fun v hv a c => ?_, fun v hv => ?_, fun v hv => ?_⟩
  · rw [metB_succ ho]
    by_cases e : v = o
    · subst e; rw [hs]; simp
    · rw [hc v hv e, h.val v hv a (by omega)]; simp [e]
  · by_cases e : v = o
    · subst e; exact ⟨true, hs⟩
    · rw [hc v hv e]; exact h.some v hv
  · have := h.free v hv
    simpa using this

theorem MetAt.idle {w : World} {B : Nat} {m : Mch} {q j : Nat} (h : MetAt w B m q j) (hn : ¬ ((q : Int) < m.S ∧ (j : Int) < m.L)) (n : Nat) : MetAt (w.drewN n) B m q (j + 1) :=
  ⟨fun v hv a c => absurd ⟨a, by omega⟩ hn, h.some, h.free⟩

theorem MetAt.zero (w : World) (m : Mch) (q T : Nat) (B : Nat) (hB : B = w.heap.size) : MetAt (w.alloc (.cells #[.bool false, .bool false, .bool false] T)) B m q 0 := by
  subst hB
  refine ⟨fun v hv _ _ => ?_, fun v hv => ⟨false, ?_⟩, fun v hv => ?_⟩
  · rw [World.cell?_alloc_at _ _ _ _ rfl]
    match v, hv with | 0, _ => rfl | 1, _ => rfl | 2, _ => rfl
  · rw [World.cell?_alloc_at _ _ _ _ rfl]
    match v, hv with | 0, _ => rfl | 1, _ => rfl | 2, _ => rfl
  · rw [World.frozen?_alloc_at _ _ _ _ rfl]

set_option maxHeartbeats 4000000 in
theorem l01Is_any (m : Mch) (hwf : m.Wf) (w : World) :
    Calls Tryd.prog 23 #[.agg m.cells.toArray] w (Ret (.bool (machP m)) w) := by
  have hm := MAt.boxed w m 25
  have hl : (w.alloc (.cells m.cells.toArray 25)).cell? ⟨w.heap.size, 0, none⟩ = some (.int .i64 m.L) := hm.l
  have hs : (w.alloc (.cells m.cells.toArray 25)).cell? ⟨w.heap.size, 1, none⟩ = some (.int .i64 m.S) := hm.s
  have hb0 : Below w.heap.size w (w.alloc (.cells m.cells.toArray 25)) := (Below.refl _ _).alloc (Nat.le_refl _) _
  have HF : Hid (inR m.L 2 3 = false → machP m = false) := fun h => by simp [machP, h]
  have HF2 : Hid (inR m.S 1 16 = false → machP m = false) := fun h => by simp [machP, h]
  by_cases c1 : inR m.L 2 3 = true
  · by_cases c2 : inR m.S 1 16 = true
    · have hL : m.L ≤ 3 := by simp [inR] at c1; omega
      have HT : Hid (rowsUpto m 16 = true → machP m = true) := fun h => by simp [machP, c1, c2]; simpa [rowsUpto] using h
      obtain ⟨mb, hmb⟩ : ∃ mb, mb = w.heap.size := ⟨_, rfl⟩
      go_enter Tryd.func23, Tryd.ntmps23
      go_wp2_with (go_at_call 32; refine (l01In_any _ _ _ _).mono ?_; rintro e w' ⟨rfl, rfl⟩)
      go_loopw [2, 3] (fun r x wr => ∃ k : Nat, k ≤ 16 ∧ x = .int .i64 k ∧ Hid (rowsUpto m k = true) ∧ r = .bool false ∧ MAt wr w.heap.size 0 m ∧ Below w.heap.size w wr ∧ w.heap.size < wr.heap.size) (fun _ x _ => 16 - (intOf x).toNat)
      case atStart => exact ⟨0, by omega, rfl, rfl, rfl, hm, hb0, by simp⟩
      case round =>
        obtain ⟨k, hk, rfl, hu, rfl, hmr, hbr, hsz⟩ := hrel
        clear hl hs
        have hl := hmr.l
        have hs := hmr.s
        by_cases hlt : k < 16
        · have i1 : (k : Int) < 16 := by omega
          go_wp2
          obtain ⟨B, hB⟩ : ∃ B, B = wr.heap.size := ⟨_, rfl⟩
          rw [← hB]
          have HB := Lib.hid hB
          clear hl hs hB
          go_loopw [2, 5] (fun r x wi => ∃ j : Nat, j ≤ 3 ∧ x = .int .i64 j ∧ Hid (rowUpto m k j = true) ∧ r = .bool false ∧ MAt wi w.heap.size 0 m ∧ Below w.heap.size w wi ∧ w.heap.size < wi.heap.size ∧ Hid (MetAt wi B m k j)) (fun _ x _ => 3 - (intOf x).toNat)
          case atStart =>
            exact ⟨0, by omega, rfl, rfl, rfl, hmr.alloc hsz _, hbr.alloc (by omega) _, by simp; omega, MetAt.zero _ _ _ _ _ HB.out⟩
          case round =>
            obtain ⟨j, hj, rfl, hU, rfl, hmi, hbi, hszi, hMet⟩ := hrel
            have hl := hmi.l
            have hs := hmi.s
            by_cases hjlt : j < 3
            · have e2 := hmi.nn hwf hlt hjlt
              have e3 := hmi.oo hwf hlt hjlt
              have b2 : 0 ≤ m.n k j ∧ m.n k j ≤ 255 := hwf.nb (k * 3 + j)
              have b3 : 0 ≤ m.o k j ∧ m.o k j ≤ 255 := hwf.ob (k * 3 + j)
              have i2 : (0 : Int) ≤ (k : Int) := by omega
              have i3 : (j : Int) < 3 := by omega
              have i4 : (0 : Int) ≤ (j : Int) := by omega
              obtain ⟨N, hN⟩ : ∃ N, N = m.n k j := ⟨_, rfl⟩
              obtain ⟨O, hO⟩ : ∃ O, O = m.o k j := ⟨_, rfl⟩
              rw [← hN] at e2 b2
              rw [← hO] at e3 b3
              have HN := Lib.hid hN
              have HO := Lib.hid hO
              clear hN hO
              by_cases hact : (k : Int) < m.S ∧ (j : Int) < m.L
              · have HA := entry_act hact
                rw [← HN.out, ← HO.out] at HA
                obtain ⟨a1, a2⟩ := hact
                by_cases k1 : N < m.S
                · by_cases k2 : O < m.L
                  · obtain ⟨o', ho'⟩ : ∃ o' : Nat, O = o' := ⟨O.toNat, by omega⟩
                    subst ho'
                    have ho3 : o' < 3 := by omega
                    have i5 : (o' : Int) < 3 := by omega
                    have i6 : (0 : Int) ≤ (o' : Int) := by omega
                    have hc := hMet.out.val o' ho3 a1 (by omega)
                    have hf := hMet.out.free o' ho3
                    have hall := metB_all (k := j) HO.out.symm
                    rw [HO.out, hall] at HA
                    clear hall
                    have HA' := Lib.hid HA
                    clear HA
                    by_cases k3 : metB m k j o' = true
                    · rw [k3] at hc
                      have HF := Lib.hid (show machP m = false from mach_false hlt (row_false hjlt (by rw [HA'.out, k3]; simp)))
                      clear k3
                      go_wp2
                      go_quiet (fail)
                      go_wp2
                      go_ret
                      exact ⟨ret_bool HF.out.symm, below_dN hbi _⟩
                    · have k3' : metB m k j o' = false := by simpa using k3
                      rw [k3'] at hc
                      have HF := Lib.hid (show rowUpto m k (j + 1) = true by rw [rowUpto_succ, hU.out, HA'.out, k3']; simp [k1, ← HO.out, k2])
                      have HM := Lib.hid (fun v => metB_succ (k := j) (m := m) (q := k) HO.out.symm v)
                      clear k3 k3'
                      go_wp2
                      go_quiet (fail)
                      go_wp2
                      go_roundw
                      case rel => exact ⟨j + 1, by omega, by go_num, HF.out, rfl, (hmi.drewN _).setCell (by have := HB.out; simp; omega) _, (below_dN hbi _).setCell (by have := HB.out; simp; omega) _, by simp; omega, hMet.out.step HO.out.symm ho3 _⟩
                      case measure => simp [intOf]; omega
                  · have HF := Lib.hid (show machP m = false from mach_false hlt (row_false hjlt (by rw [HA]; simp [k2])))
                    clear HA
                    go_wp2
                    go_quiet (fail)
                    go_wp2
                    go_ret
                    exact ⟨ret_bool HF.out.symm, below_dN hbi _⟩
                · have HF := Lib.hid (show machP m = false from mach_false hlt (row_false hjlt (by rw [HA]; simp [k1])))
                  clear HA
                  go_wp2
                  go_quiet (fail)
                  go_wp2
                  go_ret
                  exact ⟨ret_bool HF.out.symm, below_dN hbi _⟩
              · have HA := entry_idle hact
                rw [← HN.out, ← HO.out] at HA
                have HACT := Lib.hid hact
                have HA' := Lib.hid HA
                clear HA hact
                by_cases k1 : N = 0
                · by_cases k2 : (O != 0) = true
                  · have HF := Lib.hid (show machP m = false from mach_false hlt (row_false hjlt (by rw [HA'.out]; simp at k2; simp [k2])))
                    by_cases k4 : m.S ≤ (k : Int)
                    all_goals (go_wp2; go_quiet (fail); go_wp2; go_ret; exact ⟨ret_bool HF.out.symm, below_dN hbi _⟩)
                  · have k2' : (O != 0) = false := by simpa using k2
                    clear k2
                    have HF := Lib.hid (show rowUpto m k (j + 1) = true by rw [rowUpto_succ, hU.out, HA'.out]; simp at k2'; simp [k1, k2'])
                    by_cases k4 : m.S ≤ (k : Int)
                    · go_wp2
                      go_quiet (fail)
                      go_wp2
                      go_roundw
                      case rel => exact ⟨j + 1, by omega, by go_num, HF.out, rfl, hmi.drewN _, below_dN hbi _, hszi, hMet.out.idle HACT.out _⟩
                      case measure => simp [intOf]; omega
                    · go_wp2
                      go_quiet (fail)
                      go_wp2
                      go_roundw
                      case rel => exact ⟨j + 1, by omega, by go_num, HF.out, rfl, hmi.drewN _, below_dN hbi _, hszi, hMet.out.idle HACT.out _⟩
                      case measure => simp [intOf]; omega
                · have HF := Lib.hid (show machP m = false from mach_false hlt (row_false hjlt (by rw [HA'.out]; simp [k1])))
                  by_cases k4 : m.S ≤ (k : Int)
                  all_goals (go_wp2; go_quiet (fail); go_wp2; go_ret; exact ⟨ret_bool HF.out.symm, below_dN hbi _⟩)
            · have hj3 : j = 3 := by omega
              subst hj3
              have HF := Lib.hid (show rowsUpto m (k + 1) = true by rw [rowsUpto_succ, hu.out]; exact hU.out)
              go_wp2
              go_roundw
              case rel => exact ⟨k + 1, by omega, by go_num, HF.out, rfl, hmi, hbi, hszi⟩
              case measure => simp [intOf]; omega
        · have hk16 : k = 16 := by omega
          subst hk16
          go_wp2
          go_ret
          exact ⟨ret_bool (HT.out hu.out).symm, hbr⟩
    · go_enter Tryd.func23, Tryd.ntmps23
      go_wp2_with (go_at_call 32; refine (l01In_any _ _ _ _).mono ?_; rintro e w' ⟨rfl, rfl⟩)
      go_ret
      exact ⟨ret_bool (HF2.out (by simpa using c2)).symm, hb0⟩
  · go_enter Tryd.func23, Tryd.ntmps23
    go_wp2_with (go_at_call 32; refine (l01In_any _ _ _ _).mono ?_; rintro e w' ⟨rfl, rfl⟩)
    go_ret
    exact ⟨ret_bool (HF.out (by simpa using c1)).symm, hb0⟩
end Go.Proofs.YthgkkaifdlkciaaDoor

/- The codes of words of towers. -/
namespace Go.Proofs.YthgkkaifdlkciaaDoor
open Go.RowKit
set_option linter.unusedVariables false
set_option linter.unusedSimpArgs false

end Go.Proofs.YthgkkaifdlkciaaDoor

/- The move of a tower. -/
namespace Go.Proofs.YthgkkaifdlkciaaDoor
open Go.RowKit
set_option linter.unusedVariables false
set_option linter.unusedSimpArgs false

end Go.Proofs.YthgkkaifdlkciaaDoor

/- MoveTower and its reference. -/
namespace Go.Proofs.YthgkkaifdlkciaaDoor
open Go.RowKit
set_option linter.unusedVariables false
set_option linter.unusedSimpArgs false

def goodXY (x y : Int) : Prop := 0 ≤ x ∧ x ≤ 2 ∧ x < y ∧ y ≤ 2
instance (x y : Int) : Decidable (goodXY x y) := by unfold goodXY; infer_instance
end Go.Proofs.YthgkkaifdlkciaaDoor

/- The reference's codes of machines, states and words; what a state makes of a word. -/
namespace Go.Proofs.YthgkkaifdlkciaaDoor
open Go.RowKit
set_option linter.unusedVariables false
set_option linter.unusedSimpArgs false

theorem boxedBelow (w : World) (c : Array Value) (T : TypeId) : Below w.heap.size w (w.alloc (.cells c T)) := (Below.refl _ _).alloc (Nat.le_refl _) _
theorem Tryd.info5 : (Tryd.prog.info? 5).map (fun i => (i.zero, i.size, i.bytes)) = some (some (.int .u8 0), 1, 1) := by kernel_rfl

/-- the text out of an owned row of bytes -/
theorem own_str {w : World} {base : Nat} {v : Value} {ns : List Int} (h : w.ownsRow base 5 1 v ns.length (u8s ns)) :
    (convert 63 9 v).run Tryd.prog w = .ok (.string (strOfNums ns)) w := by
  rcases h.2 with ⟨rfl, h0⟩ | ⟨g, cap, cur, rfl, _, hg, hn, _, _, ht⟩
  · have : ns = [] := List.length_eq_zero_iff.1 h0
    subst this
    exact run_convert_bytes_nil w 63 5 Tryd.underlying63 Tryd.underlying5 0 0 9 Tryd.underlying9
  · refine run_convert_bytes_arg w 63 5 Tryd.underlying63 Tryd.underlying5 g 0 ns.length cap ns rfl (fun i hi => ?_) 9 Tryd.underlying9
    have := h.cells (g := g) rfl i (.int .u8 (ns[i]?.getD 0)) (u8s_get hi)
    rw [Addr.add_mid] at this
    rw [this]
    simp [List.getD]

end Go.Proofs.YthgkkaifdlkciaaDoor

/- The laws' copies and comparisons of machines. -/
namespace Go.Proofs.YthgkkaifdlkciaaDoor
open Go.RowKit
set_option linter.unusedVariables false
set_option linter.unusedSimpArgs false

end Go.Proofs.YthgkkaifdlkciaaDoor

/- The inverse machine: reference and program. -/
namespace Go.Proofs.YthgkkaifdlkciaaDoor
open Go.RowKit
set_option linter.unusedVariables false
set_option linter.unusedSimpArgs false

theorem map48_congr {f g : Nat → Int} (h : ∀ i, i < 48 → f i = g i) : (List.range 48).map f = (List.range 48).map g := List.map_congr_left fun i hi => h i (by simpa using hi)
theorem map48_set (f : Nat → Int) {j : Nat} (hj : j < 48) (v : Int) : ((List.range 48).map f).set j v = (List.range 48).map fun i => if i = j then v else f i := by
  apply List.ext_getElem
  · simp
  · intro i h1 h2
    rw [List.getElem_set]
    simp only [List.getElem_map, List.getElem_range]
    by_cases e : j = i
    · subst e; simp
    · rw [if_neg e, if_neg (fun h => e h.symm)]
theorem cells_setN (L S : Int) (N O : List Int) (i : Nat) (hi : i < N.length) (v : Int) : (Mch.cells ⟨L, S, N, O⟩).set (2 + i) (.int .u8 v) = Mch.cells ⟨L, S, N.set i v, O⟩ := by
  simp only [Mch.cells]
  rw [show 2 + i = i + 1 + 1 by omega, List.set_cons_succ, List.set_cons_succ, ← List.map_set, List.set_append_left _ _ hi]
theorem cells_setO (L S : Int) (N O : List Int) (i : Nat) (hn : N.length = 48) (v : Int) : (Mch.cells ⟨L, S, N, O⟩).set (50 + i) (.int .u8 v) = Mch.cells ⟨L, S, N, O.set i v⟩ := by
  simp only [Mch.cells]
  rw [show 50 + i = (48 + i) + 1 + 1 by omega, List.set_cons_succ, List.set_cons_succ, ← List.map_set, List.set_append_right _ _ (by omega), hn, show 48 + i - 48 = i by omega]
theorem zero98 (a b : Value) : ((Tryd.zeroCells25.setIfInBounds 0 a).setIfInBounds 1 b).toList = a :: b :: ((List.replicate 48 (0 : Int)) ++ (List.replicate 48 (0 : Int))).map (Value.int .u8) := by
  kernel_rfl
theorem mach_ones (m : Mch) : ∀ v ∈ m.cells, v.oneCell' = true := fun v hv => by
  simp only [Mch.cells, List.mem_cons, List.mem_map] at hv
  rcases hv with rfl | rfl | ⟨z, _, rfl⟩ <;> rfl
theorem mach_infoT {m : Mch} (hwf : m.Wf) : (Tryd.prog.info? 25).map (·.size) = some m.cells.length := by rw [Mch.cells_length hwf]; kernel_rfl

theorem zero_len : Tryd.zeroCells25.toList.length = 98 := by kernel_rfl
end Go.Proofs.YthgkkaifdlkciaaDoor

/- Machines while they are filled, by what is done: no program in sight. -/
namespace Go.Proofs.YthgkkaifdlkciaaDoor
set_option linter.unusedVariables false
set_option linter.unusedSimpArgs false

/-- 16 rows of 3 numbers: those of d letters that D tells of are given -/
def gaD (d : Nat) (D : Nat → Nat → Bool) (f : Nat → Nat → Nat) : List Int := (List.range 48).map fun j => if j % 3 < d ∧ D (j / 3) (j % 3) = true then (f (j / 3) (j % 3) : Int) else 0
theorem gaD_len (d : Nat) (D : Nat → Nat → Bool) (f : Nat → Nat → Nat) : (gaD d D f).length = 48 := by simp [gaD]
def plusD (D : Nat → Nat → Bool) (q x : Nat) (i y : Nat) : Bool := D i y || (decide (i = q) && decide (y = x))
theorem gaD_congr {d : Nat} {D E : Nat → Nat → Bool} {f g : Nat → Nat → Nat} (h : ∀ i y, i < 16 → y < d → D i y = E i y) (hf : ∀ i y, i < 16 → y < d → D i y = true → f i y = g i y) : gaD d D f = gaD d E g := by
  unfold gaD
  refine map48_congr fun j hj => ?_
  by_cases c : j % 3 < d
  · have h1 := h (j / 3) (j % 3) (by omega) c
    by_cases e : D (j / 3) (j % 3) = true
    · rw [if_pos ⟨c, e⟩, if_pos ⟨c, h1 ▸ e⟩, hf _ _ (by omega) c e]
    · rw [if_neg (fun k => e k.2), if_neg (fun k => e (h1 ▸ k.2))]
  · rw [if_neg (fun k => c k.1), if_neg (fun k => c k.1)]
theorem gaD_set {d : Nat} {D : Nat → Nat → Bool} {f : Nat → Nat → Nat} {q x : Nat} (hq : q < 16) (hx : x < d) (hd : d ≤ 3) : (gaD d D f).set (q * 3 + x) (f q x : Int) = gaD d (plusD D q x) f := by
  rw [gaD, map48_set _ (by omega), gaD]
  refine map48_congr fun i hi => ?_
  by_cases e : i = q * 3 + x
  · subst e
    rw [if_pos rfl, show (q * 3 + x) / 3 = q by omega, show (q * 3 + x) % 3 = x by omega, if_pos ⟨hx, by simp [plusD]⟩]
  · rw [if_neg e]
    have h : plusD D q x (i / 3) (i % 3) = D (i / 3) (i % 3) := by
      have : ¬ (i / 3 = q ∧ i % 3 = x) := by omega
      simp [plusD, this]
    rw [h]
theorem gaD_bound {d b : Nat} {D : Nat → Nat → Bool} {f : Nat → Nat → Nat} (hf : ∀ i y, i < 16 → y < d → D i y = true → f i y ≤ b) (i : Nat) : 0 ≤ (gaD d D f)[i]?.getD 0 ∧ (gaD d D f)[i]?.getD 0 ≤ (b : Int) := by
  by_cases h : i < 48
  · simp only [gaD, List.getElem?_map, List.getElem?_range h, Option.map_some, Option.getD_some]
    split
    · rename_i hc
      have := hf _ _ (by omega) hc.1 hc.2
      omega
    · omega
  · rw [List.getElem?_eq_none (by rw [gaD_len]; omega)]
    simp only [Option.getD_none]; omega
theorem gaD_none {d : Nat} {D : Nat → Nat → Bool} {f : Nat → Nat → Nat} (h : ∀ i y, D i y = false) : gaD d D f = List.replicate 48 0 := by
  have h : gaD d D f = (List.range 48).map fun _ => (0 : Int) := map48_congr fun i hi => by rw [if_neg]; rw [h]; simp
  rw [h]; rfl
/-- a machine while it is filled -/
def daM (L S : Int) (d : Nat) (f g : Nat → Nat → Nat) (D E : Nat → Nat → Bool) : Mch := ⟨L, S, gaD d D f, gaD d E g⟩
theorem daM_setN {L S : Int} {d : Nat} {f g : Nat → Nat → Nat} {D E : Nat → Nat → Bool} {q x : Nat} (hq : q < 16) (hx : x < d) (hd : d ≤ 3) : (daM L S d f g D E).cells.set (2 + q * 3 + x) (.int .u8 (f q x : Int)) = (daM L S d f g (plusD D q x) E).cells := by
  rw [Nat.add_assoc, daM, cells_setN _ _ _ _ _ (by rw [gaD_len]; omega), gaD_set hq hx hd]; rfl
theorem daM_setO {L S : Int} {d : Nat} {f g : Nat → Nat → Nat} {D E : Nat → Nat → Bool} {q x : Nat} (hq : q < 16) (hx : x < d) (hd : d ≤ 3) : (daM L S d f g D E).cells.set (50 + q * 3 + x) (.int .u8 (g q x : Int)) = (daM L S d f g D (plusD E q x)).cells := by
  rw [Nat.add_assoc, daM, cells_setO _ _ _ _ _ (gaD_len _ _ _), gaD_set hq hx hd]; rfl

end Go.Proofs.YthgkkaifdlkciaaDoor

/- Words of a level and their numbers: no program in sight. -/
namespace Go.Proofs.YthgkkaifdlkciaaDoor
open Go.RowKit
set_option linter.unusedVariables false
set_option linter.unusedSimpArgs false

end Go.Proofs.YthgkkaifdlkciaaDoor

/- Machines and their texts: no program in sight. -/
namespace Go.Proofs.YthgkkaifdlkciaaDoor
open Go.RowKit
set_option linter.unusedVariables false
set_option linter.unusedSimpArgs false

/-- the numbers of the first x letters of a state's text -/
def rowU (m : Mch) (q x : Nat) : List Int := (List.range x).flatMap fun x => [((48 + m.on q x : Nat) : Int), ((97 + m.nn q x : Nat) : Int)]
def rowI (m : Mch) (q : Nat) : List Int := rowU m q m.l
def rowB (m : Mch) (q : Nat) : ByteArray := strOfNums (rowI m q)
def rowsB (m : Mch) : List ByteArray := (List.range m.s).map (rowB m)
/-- the text behind the colon, the whole text -/
def rsB (m : Mch) : ByteArray := ⟨(Lib.join ((rowsB m).map (·.data.toList)) [44]).toArray⟩
def hdB (m : Mch) : ByteArray := strOfNums [((48 + m.l : Nat) : Int)]
def mtB (m : Mch) : ByteArray := strOfNums [((48 + m.l : Nat) : Int), 58] ++ rsB m
/-- the parts of a text: those that are cut off, and where the next one begins -/
def spS (s : ByteArray) (c : Nat) : Nat → List ByteArray × Nat
  | 0 => ([], 0)
  | i + 1 => if (s[i]!).toNat = c then ((spS s c i).1 ++ [s.extract (spS s c i).2 i], i + 1) else spS s c i
def spB (s : ByteArray) (c : Nat) : List ByteArray := (spS s c s.size).1 ++ [s.extract (spS s c s.size).2 s.size]
theorem spS_le (s : ByteArray) (c : Nat) : ∀ i, (spS s c i).2 ≤ i
  | 0 => Nat.le_refl _
  | i + 1 => by
    rw [spS]
    split
    · exact Nat.le_refl _
    · exact Nat.le_succ_of_le (spS_le s c i)
theorem spS_len (s : ByteArray) (c : Nat) : ∀ i, (spS s c i).1.length ≤ i
  | 0 => Nat.le_refl _
  | i + 1 => by
    have := spS_len s c i
    rw [spS]
    split
    · simp only [List.length_append, List.length_singleton]; omega
    · omega
/-- t is the text of the machine m -/
structure TextOf (m : Mch) (t : ByteArray) : Prop where
  wf : m.Wf
  mach : machP m = true
  txt : mtB m = t
  cut : Lib.cut t.data.toList [58] = ((hdB m).data.toList, (rsB m).data.toList, true)
  cnt : Lib.countB (rsB m) ⟨#[44]⟩ + 1 = m.s
  spl : Lib.splitB ⟨#[44]⟩ 0 (Lib.countB (rsB m) ⟨#[44]⟩) (rsB m) = rowsB m
  ext : t.extract 2 t.size = rsB m
  spl2 : spB (rsB m) 44 = rowsB m
  size : t.size ≤ 1000 ∧ 2 ≤ t.size
  at0 : (t[0]!).toNat = 48 + m.l
  at1 : (t[1]!).toNat = 58
def wfB (m : Mch) : Bool := m.N.length == 48 && m.O.length == 48 && (m.N.all fun x => decide (0 ≤ x) && decide (x ≤ 255)) && (m.O.all fun x => decide (0 ≤ x) && decide (x ≤ 255)) && decide (0 ≤ m.L) && decide (m.L ≤ 100) && decide (0 ≤ m.S) && decide (m.S ≤ 100)
theorem all_get {l : List Int} (h : (l.all fun x => decide (0 ≤ x) && decide (x ≤ 255)) = true) (i : Nat) : 0 ≤ l[i]?.getD 0 ∧ l[i]?.getD 0 ≤ 255 := by
  by_cases hi : i < l.length
  · rw [List.getElem?_eq_getElem hi, Option.getD_some]
    have := List.all_eq_true.1 h _ (List.getElem_mem hi)
    simpa using this
  · rw [List.getElem?_eq_none (by omega)]
    simp
theorem wf_of {m : Mch} (h : wfB m = true) : m.Wf := by
  simp only [wfB, Bool.and_eq_true, beq_iff_eq, decide_eq_true_eq] at h
  obtain ⟨⟨⟨⟨⟨⟨⟨h1, h2⟩, h3⟩, h4⟩, h5⟩, h6⟩, h7⟩, h8⟩ := h
  exact ⟨h1, h2, all_get h3, all_get h4, by omega, by omega⟩
def bEq (s t : ByteArray) : Bool := s.data.toList == t.data.toList
theorem bEq_eq {s t : ByteArray} (h : bEq s t = true) : s = t := by
  have := eq_of_beq h
  cases s; cases t
  congr 1
  exact Array.toList_inj.1 this
def bsEq : List ByteArray → List ByteArray → Bool
  | [], [] => true
  | s :: l, t :: r => bEq s t && bsEq l r
  | _, _ => false
theorem bsEq_eq : ∀ {l r : List ByteArray}, bsEq l r = true → l = r
  | [], [], _ => rfl
  | s :: l, t :: r, h => by
    simp only [bsEq, Bool.and_eq_true] at h
    rw [bEq_eq h.1, bsEq_eq h.2]
def textB (m : Mch) (t : ByteArray) : Bool :=
  wfB m && machP m && bEq (mtB m) t && (Lib.cut t.data.toList [58] == ((hdB m).data.toList, (rsB m).data.toList, true)) && (Lib.countB (rsB m) ⟨#[44]⟩ + 1 == m.s) &&
  bsEq (Lib.splitB ⟨#[44]⟩ 0 (Lib.countB (rsB m) ⟨#[44]⟩) (rsB m)) (rowsB m) && bEq (t.extract 2 t.size) (rsB m) && bsEq (spB (rsB m) 44) (rowsB m) && decide (t.size ≤ 1000) && decide (2 ≤ t.size) && ((t[0]!).toNat == 48 + m.l) && ((t[1]!).toNat == 58)
theorem text_of {m : Mch} {t : ByteArray} (h : textB m t = true) : TextOf m t := by
  simp only [textB, Bool.and_eq_true, decide_eq_true_eq, beq_iff_eq] at h
  obtain ⟨⟨⟨⟨⟨⟨⟨⟨⟨⟨⟨h1, h2⟩, h3⟩, h4⟩, h5⟩, h6⟩, h7⟩, h8⟩, h9⟩, h10⟩, h11⟩, h12⟩ := h
  exact ⟨wf_of h1, h2, bEq_eq h3, h4, h5, bsEq_eq h6, bEq_eq h7, bsEq_eq h8, ⟨h9, h10⟩, h11, h12⟩
/-- the machine that a text tells -/
def prs (t : ByteArray) : Mch :=
  let rows := spB (t.extract 2 t.size) 44
  let d := (t[0]!).toNat - 48
  ⟨(d : Int), (rows.length : Int), (List.range 48).map fun j => if j / 3 < rows.length ∧ j % 3 < d then ((((rows[j / 3]?.getD ⟨#[]⟩)[2 * (j % 3) + 1]!).toNat - 97 : Nat) : Int) else 0,
    (List.range 48).map fun j => if j / 3 < rows.length ∧ j % 3 < d then ((((rows[j / 3]?.getD ⟨#[]⟩)[2 * (j % 3)]!).toNat - 48 : Nat) : Int) else 0⟩
/-- the entries ahead of state q, and those of the first x letters there -/
def rdD (q x i y : Nat) : Bool := decide (i < q) || (decide (i = q) && decide (y < x))
/-- a machine while it is read -/
def rdM (m : Mch) (q x z : Nat) : Mch := daM m.L m.S m.l m.nn m.on (rdD q x) (rdD q z)
theorem rd_plus (q x i y : Nat) : plusD (rdD q x) q x i y = rdD q (x + 1) i y := by
  unfold plusD rdD
  rw [Bool.eq_iff_iff]
  simp only [Bool.or_eq_true, Bool.and_eq_true, decide_eq_true_eq]
  omega
theorem rd_row (q d i y : Nat) (hy : y < d) : rdD q d i y = rdD (q + 1) 0 i y := by
  unfold rdD
  rw [Bool.eq_iff_iff]
  simp only [Bool.or_eq_true, Bool.and_eq_true, decide_eq_true_eq]
  omega
theorem rdM_row (m : Mch) (q : Nat) : rdM m q m.l m.l = rdM m (q + 1) 0 0 := by
  unfold rdM daM
  rw [gaD_congr (E := rdD (q + 1) 0) (g := m.nn) (fun i y _ hy => rd_row q m.l i y hy) (fun _ _ _ _ _ => rfl),
    gaD_congr (D := rdD q m.l) (E := rdD (q + 1) 0) (g := m.on) (fun i y _ hy => rd_row q m.l i y hy) (fun _ _ _ _ _ => rfl)]
theorem rdM_setN {m : Mch} (hl : m.l ≤ 3) {q x z : Nat} (hq : q < 16) (hx : x < m.l) : (rdM m q x z).cells.set (2 + q * 3 + x) (.int .u8 (m.nn q x : Int)) = (rdM m q (x + 1) z).cells := by
  rw [rdM, daM_setN hq hx hl]
  unfold rdM daM
  rw [gaD_congr (E := rdD q (x + 1)) (g := m.nn) (fun i y _ _ => rd_plus q x i y) (fun _ _ _ _ _ => rfl)]
theorem rdM_setO {m : Mch} (hl : m.l ≤ 3) {q x z : Nat} (hq : q < 16) (hz : z < m.l) : (rdM m q x z).cells.set (50 + q * 3 + z) (.int .u8 (m.on q z : Int)) = (rdM m q x (z + 1)).cells := by
  rw [rdM, daM_setO hq hz hl]
  unfold rdM daM
  rw [gaD_congr (D := plusD (rdD q z) q z) (E := rdD q (z + 1)) (g := m.on) (fun i y _ _ => rd_plus q z i y) (fun _ _ _ _ _ => rfl)]
theorem rdM_none (m : Mch) : (rdM m 0 0 0) = ⟨m.L, m.S, List.replicate 48 0, List.replicate 48 0⟩ := by
  unfold rdM daM
  rw [gaD_none (fun i y => by simp [rdD]), gaD_none (fun i y => by simp [rdD])]
theorem rdM_wf {m : Mch} (hok : m.Ok) (hwf : m.Wf) {q x z : Nat} (hq : q < m.s ∨ q ≤ m.s ∧ x = 0 ∧ z = 0) : (rdM m q x z).Wf := by
  have hs := hok.s_le
  have hl := hok.l_le
  have hlt : ∀ x i y, (q < m.s ∨ x = 0) → rdD q x i y = true → i < m.s := fun x i y hx h => by
    simp only [rdD, Bool.or_eq_true, Bool.and_eq_true, decide_eq_true_eq] at h
    omega
  have hqx : q < m.s ∨ x = 0 := hq.imp id fun h => h.2.1
  have hqz : q < m.s ∨ z = 0 := hq.imp id fun h => h.2.2
  refine ⟨gaD_len _ _ _, gaD_len _ _ _, fun i => ?_, fun i => ?_, hwf.lb, hwf.sb⟩
  · have := gaD_bound (d := m.l) (b := 255) (D := rdD q x) (f := m.nn) (fun i y hi hy h => by
      have := hok.nn_lt hwf (hlt x i y hqx h) hy; omega) i
    simpa [rdM, daM] using this
  · have := gaD_bound (d := m.l) (b := 255) (D := rdD q z) (f := m.on) (fun i y hi hy h => by
      have := hok.on_lt hwf (hlt z i y hqz h) hy; omega) i
    simpa [rdM, daM] using this
theorem entry_out {m : Mch} (hm : machP m = true) {q x : Nat} (hq : q < 16) (hx : x < 3) (h : ¬ (q < m.s ∧ x < m.l)) : m.n q x = 0 ∧ m.o q x = 0 := by
  have hok := mach_ok hm
  simp only [machP, Bool.and_eq_true] at hm
  have h1 := List.all_eq_true.1 hm.2 q (List.mem_range.2 hq)
  have h2 := List.all_eq_true.1 (show (List.range 3).all (fun x => entryP m q x) = true from h1) x (List.mem_range.2 hx)
  have hS := hok.S_eq
  have hL := hok.L_eq
  have hc : (decide (m.S ≤ (q : Int)) || decide (m.L ≤ (x : Int))) = true := by
    simp only [Bool.or_eq_true, decide_eq_true_eq]; omega
  simp only [entryP, hc, if_true, Bool.and_eq_true, beq_iff_eq] at h2
  exact h2
theorem rdM_all {m : Mch} (hwf : m.Wf) (hm : machP m = true) : rdM m m.s 0 0 = m := by
  have hok := mach_ok hm
  have hs := hok.s_le
  have hl := hok.l_le
  have key : ∀ (X : List Int) (f : Nat → Nat → Nat), X.length = 48 → (∀ q x, q < m.s → x < m.l → X[q * 3 + x]?.getD 0 = (f q x : Int)) → (∀ q x, q < 16 → x < 3 → ¬ (q < m.s ∧ x < m.l) → X[q * 3 + x]?.getD 0 = 0) → gaD m.l (rdD m.s 0) f = X := fun X f hX h1 h2 => by
    apply List.ext_getElem
    · rw [gaD_len, hX]
    · intro i hi hi2
      rw [gaD_len] at hi
      have e : i = i / 3 * 3 + i % 3 := by omega
      simp only [gaD, List.getElem_map, List.getElem_range]
      have hg : X[i] = X[i / 3 * 3 + i % 3]?.getD 0 := by rw [← e, List.getElem?_eq_getElem hi2]; rfl
      rw [hg]
      by_cases c : i / 3 < m.s ∧ i % 3 < m.l
      · rw [if_pos ⟨c.2, by simp [rdD, c.1]⟩, h1 _ _ c.1 c.2]
      · rw [if_neg, h2 _ _ (by omega) (by omega) c]
        rintro ⟨a, b⟩
        exact c ⟨by simpa [rdD] using b, a⟩
  unfold rdM daM
  rw [key m.N m.nn hwf.nl (fun q x hq hx => hok.n_eq hwf hq hx) (fun q x hq hx h => (entry_out hm hq hx h).1), key m.O m.on hwf.ol (fun q x hq hx => hok.o_eq hwf hq hx) (fun q x hq hx h => (entry_out hm hq hx h).2)]
theorem rowB_size (m : Mch) (q : Nat) : (rowB m q).size = 2 * m.l := by
  have : ∀ x, (rowU m q x).length = 2 * x := fun x => by
    induction x with
    | zero => rfl
    | succ x ih => simp only [rowU, List.range_succ, List.flatMap_append, List.length_append] at ih ⊢; rw [ih]; simp; omega
  rw [rowB, strOfNums_size, rowI, this]
theorem rowU_len (m : Mch) (q x : Nat) : (rowU m q x).length = 2 * x := by
  induction x with
  | zero => rfl
  | succ x ih => simp only [rowU, List.range_succ, List.flatMap_append, List.length_append] at ih ⊢; rw [ih]; simp; omega
theorem rowU_succ (m : Mch) (q x : Nat) : rowU m q (x + 1) = rowU m q x ++ [((48 + m.on q x : Nat) : Int), ((97 + m.nn q x : Nat) : Int)] := by
  simp [rowU, List.range_succ, List.flatMap_append]
theorem rowU_get (m : Mch) (q : Nat) : ∀ (n x : Nat), x < n → (rowU m q n)[2 * x]? = some ((48 + m.on q x : Nat) : Int) ∧ (rowU m q n)[2 * x + 1]? = some ((97 + m.nn q x : Nat) : Int)
  | 0, x, h => by omega
  | n + 1, x, h => by
    rw [rowU_succ]
    by_cases e : x = n
    · subst e
      rw [List.getElem?_append_right (by rw [rowU_len]; omega), List.getElem?_append_right (by rw [rowU_len]; omega), rowU_len]
      rw [Nat.sub_self, show 2 * x + 1 - 2 * x = 1 by omega]
      exact ⟨rfl, rfl⟩
    · have h2 := rowU_get m q n x (by omega)
      have h3 := rowU_len m q n
      rw [List.getElem?_append_left (by omega), List.getElem?_append_left (by omega)]
      exact h2
theorem str_get {l : List Int} {i v : Nat} (hi : i < (strOfNums l).size) (h : l[i]? = some (v : Int)) (hv : v ≤ 255) : ((strOfNums l)[i]).toNat = v := by
  have h1 : (strOfNums l)[i] = (strOfNums l).data.toList[i]'(by have := strOfNums_size l; rw [strOfNums_data, List.length_map]; omega) := rfl
  rw [h1]
  simp only [strOfNums_data, List.getElem_map]
  have h2 : l[i]'(by have := strOfNums_size l; omega) = (v : Int) := by
    rw [List.getElem?_eq_getElem (by have := strOfNums_size l; omega)] at h
    exact Option.some.inj h
  rw [h2, Int.toNat_natCast]
  simp; omega
theorem rowB_get {m : Mch} (hok : m.Ok) (hwf : m.Wf) {q x : Nat} (hq : q < m.s) (hx : x < m.l) (h1 : 2 * x < (rowB m q).size) (h2 : 2 * x + 1 < (rowB m q).size) : ((rowB m q)[2 * x]).toNat = 48 + m.on q x ∧ ((rowB m q)[2 * x + 1]).toNat = 97 + m.nn q x := by
  have hl := hok.l_le
  have hs := hok.s_le
  have h3 := hok.on_lt hwf hq hx
  have h4 := hok.nn_lt hwf hq hx
  obtain ⟨h5, h6⟩ := rowU_get m q m.l x hx
  exact ⟨str_get (l := rowI m q) h1 h5 (by omega), str_get (l := rowI m q) h2 h6 (by omega)⟩
/-- the texts of the known machines -/
def knT : List ByteArray := [⟨#[50, 58, 48, 97, 49, 97, 44, 49, 97, 48, 98]⟩, ⟨#[51, 58, 48, 97, 49, 97, 50, 97, 44, 49, 97, 50, 97, 48, 98]⟩, ⟨#[50, 58, 49, 99, 48, 98, 44, 49, 98, 48, 99, 44, 48, 97, 49, 97]⟩,
  ⟨#[50, 58, 48, 97, 49, 97, 44, 48, 97, 49, 99, 44, 49, 97, 48, 98]⟩, ⟨#[50, 58, 48, 97, 49, 97, 44, 49, 97, 48, 97, 44, 48, 98, 49, 100, 44, 48, 98, 49, 101, 44, 48, 97, 49, 99]⟩,
  ⟨#[51, 58, 48, 97, 49, 97, 50, 97, 44, 49, 97, 50, 97, 48, 97, 44, 48, 98, 49, 99, 50, 100, 44, 50, 97, 48, 97, 49, 97]⟩, ⟨#[51, 58, 48, 97, 49, 97, 50, 97, 44, 49, 97, 48, 97, 50, 98, 44, 50, 97, 49, 99, 48, 97, 44, 48, 100, 50, 97, 49, 97]⟩,
  ⟨#[50, 58, 48, 97, 49, 98, 44, 49, 97, 48, 98]⟩]
def knTx (k : Nat) : ByteArray := knT[k]?.getD ⟨#[]⟩
theorem kn_text {k : Nat} (h : k < 8) : TextOf (prs (knTx k)) (knTx k) := by
  have : ((List.range 8).all fun k => textB (prs (knTx k)) (knTx k)) = true := by kernel_rfl
  exact text_of (List.all_eq_true.1 this k (List.mem_range.2 h))
end Go.Proofs.YthgkkaifdlkciaaDoor

/- A region in drawn order by what holds at each set of operations that are done. -/
namespace Go.Proofs.YthgkkaifdlkciaaDoor
open Go.RowKit
set_option linter.unusedVariables false
set_option linter.unusedSimpArgs false
section
variable {P : Program} {ops : Array Oper} {Q : Exit → Act → World → Prop} {md : Region.Mode} {S : World → Prop} {L : List Nat}
end
end Go.Proofs.YthgkkaifdlkciaaDoor

/- 'out = append(out, row...)' in a function's own memory. -/
namespace Go.Proofs.YthgkkaifdlkciaaDoor
open Go.RowKit
set_option linter.unusedVariables false
set_option linter.unusedSimpArgs false
section
variable {B : Nat} {w0 w : World} {L : List (Nat × List Value × TypeId)} {G : List (Value × TypeId × List Value)}

theorem Mm.grow2 (h : Mm B w0 w L G) (i : Nat) {v v' : Value} {E : TypeId} {xs : List Value} (hi : G[i]? = some (v, E, xs)) {news : List Value} {m : Nat} {w' : World} (hm : m = news.length)
    (hown : w'.ownsRow B E 1 v' (xs.length + m) (xs ++ news)) (hgrow : w.grownBy w' v.ownBlock) (hlies : v'.ownBlock = v.ownBlock ∨ v'.ownBlock = some w.heap.size) :
    Mm B w0 w' L (G.set i (v', E, xs ++ news)) := by
  have hv := mem_of_get hi
  have hsz := hgrow.size
  have hblock : ∀ k, k < w.heap.size → v.ownBlock ≠ some k → w'.heap[k]? = w.heap[k]? := fun k hk hne => hgrow.block k hk (Ne.symm hne)
  have hnb : ∀ k, k < w.heap.size → v.ownBlock ≠ some k → v'.ownBlock ≠ some k := fun k hk hne e => by
    rcases hlies with h' | h'
    · rw [h'] at e; exact hne e
    · rw [h'] at e; injection e with e; omega
  have hsym : ∀ x y : Value × TypeId × List Value, (∀ b, x.1.ownBlock = some b → y.1.ownBlock ≠ some b) → ∀ b, y.1.ownBlock = some b → x.1.ownBlock ≠ some b := fun x y h b e e' => h b e' e
  refine ⟨?_, by have := h.size; omega, fun x hx => ⟨(h.blk x hx).1, (hblock _ (h.blk x hx).2.lt (h.sep _ hv x hx)).trans (h.blk x hx).2⟩, h.dist, fun x hx => ?_, fun x hx y hy => ?_, ?_⟩
  · refine ⟨hgrow.os.trans h.below.os, hgrow.tape.trans h.below.tape, hgrow.output.trans h.below.output, by have := h.below.size; omega, fun k hk => ?_⟩
    have hkw : k < w.heap.size := by have := h.size; omega
    exact (hblock k hkw (fun e => by have := (World.ownsRow.lt (h.own _ hv) k e).1; omega)).trans (h.below.block k hk)
  · rcases mem_set_of hx with rfl | ⟨j, hj, hx⟩
    · have : (xs ++ news).length = xs.length + m := by rw [List.length_append, hm]
      simp only [this]
      exact hown
    · have ho := h.own x (mem_of_get hx)
      refine ⟨ho.1, ?_⟩
      rcases ho.2 with hn | ⟨g', cap', cur, hv', h1, h2, rest⟩
      · exact .inl hn
      · have hlt := h.ownlt (mem_of_get hx) (by rw [hv']; rfl : x.1.ownBlock = some g')
        exact .inr ⟨g', cap', cur, hv', h1, (hblock g' hlt (pairwise_get hsym h.gdist hx hi hj g' (by rw [hv']; rfl))).trans h2, rest⟩
  · rcases mem_set_of hx with rfl | ⟨j, hj, hx⟩
    · exact hnb _ (h.blk y hy).2.lt (h.sep _ hv y hy)
    · exact h.sep x (mem_of_get hx) y hy
  · rw [List.pairwise_iff_getElem]
    intro a b ha' hb' hab c e
    simp only [List.getElem_set] at e ⊢
    simp only [List.length_set] at ha' hb'
    by_cases e1 : i = a
    · subst e1
      simp only [if_true] at e
      rw [if_neg (by omega)]
      intro e2
      have hlt := h.ownlt (List.getElem_mem hb') e2
      exact hnb c hlt (pairwise_get hsym h.gdist (List.getElem?_eq_getElem hb') hi (by omega) c e2) e
    · rw [if_neg e1] at e
      by_cases e2 : i = b
      · subst e2
        simp only [if_true]
        have hlt := h.ownlt (List.getElem_mem ha') e
        exact hnb c hlt (pairwise_get hsym h.gdist (List.getElem?_eq_getElem ha') hi (by omega) c e)
      · rw [if_neg e2]
        exact (List.pairwise_iff_getElem.1 h.gdist) a b ha' hb' hab c e

/-- 'out = append(out, row...)' to the slice number i; the row is somebody's own -/
theorem Mm.appendRow {P : Program} {ops : Array Oper} {rest : List Oper} {o : Oper} {a : Act} {Q : Exit → Act → World → Prop} (hgd : o.guard = none) (s x : Operand) (t : TypeId)
    (ho : o.op = .call { callee := .builtin .append, args := #[s, x], argTypes := #[t, t] })
    (h : Mm B w0 w L G) (i : Nat) {v : Value} {E : TypeId} {xs : List Value} (hi : G[i]? = some (v, E, xs)) {i0 : TypeInfo} {z : Value} {bytes : Nat} (ht : P.underlying t = some (.slice E)) (hI : P.info? E = some i0) (hz : i0.zero = some z)
    (hsize : i0.size = 1) (hby : i0.bytes = bytes) (hzs : z.cells.size = 1) (hs : a.eval s = v) {u : Value} (hx : a.eval x = u) {B2 n : Nat} {news : List Value} (hn : n = news.length) (hu : w.ownsRow B2 E 1 u n news) (h1 : ∀ y ∈ news, y.oneCell' = true)
    (hlen : xs.length ≤ 1000000) (hlen2 : news.length ≤ 1000000) (hbytes : bytes ≤ 1000)
    (hk : ∀ v' w', Mm B w0 w' L (G.set i (v', E, xs ++ news)) → wpList P ops Q rest (a.put o.dst v') w') :
    wpList P ops Q (o :: rest) a w := by
  subst hn
  have hov := h.own _ (mem_of_get hi)
  simp only at hov
  rcases id hu.2 with ⟨rfl, h0⟩ | ⟨g, cap, cur, rfl, -⟩
  · have hnil : news = [] := List.eq_nil_of_length_eq_zero (by omega)
    subst hnil
    refine wpList_append_own_none hgd s x t ho B E i0 1 ht hI v xs.length xs hs hov hx ?_
    refine hk v w ?_
    rw [List.append_nil]
    have : G.set i (v, E, xs) = G := by
      apply List.ext_getElem?
      intro j
      rw [List.getElem?_set]
      split
      · rename_i e; subst e
        split
        · rw [hi]
        · rename_i hc; rw [List.getElem?_eq_none (by omega)]
      · rfl
    rw [this]; exact h
  · refine wpList_append_own_at w hgd s x t ho B E i0 z 1 bytes ht hI hz hsize hby hzs (by decide) v xs.length xs hs hov ⟨g, 0, none⟩ news.length cap news hx (by omega) (fun j y hj => ?_) h1 (by unfold maxLen; omega) ?_ h.size (fun v' w' a1 a2 _ a4 => hk v' w' (h.grow2 i hi rfl a1 a2 a4))
    · exact World.ownsRow.cells hu (g := g) rfl j y hj
    · calc (xs.length + news.length) * bytes ≤ 2000000 * 1000 := Nat.mul_le_mul (by omega) hbytes
        _ ≤ _ := by omega
end
end Go.Proofs.YthgkkaifdlkciaaDoor
