/- Machines as data, and where they lie in memory. -/
import Derived.Test.YtmacnofkpdikiaaA
import Derived.Deep.MidRow
namespace Go.Proofs.Ytmacnofkpdikiaa
open Go.RowKit
set_option linter.unusedVariables false
set_option linter.unusedSimpArgs false

structure Mch where
  L : Int
  S : Int
  N : List Int
  O : List Int

def Mch.cells (m : Mch) : List Value := .int .i64 m.L :: .int .i64 m.S :: (m.N ++ m.O).map (Value.int .u8)
def Mch.n (m : Mch) (q x : Nat) : Int := m.N[q * 3 + x]?.getD 0
def Mch.o (m : Mch) (q x : Nat) : Int := m.O[q * 3 + x]?.getD 0

structure Mch.Wf (m : Mch) : Prop where
  nl : m.N.length = 48
  ol : m.O.length = 48
  nb : ∀ i : Nat, 0 ≤ m.N[i]?.getD 0 ∧ m.N[i]?.getD 0 ≤ 255
  ob : ∀ i : Nat, 0 ≤ m.O[i]?.getD 0 ∧ m.O[i]?.getD 0 ≤ 255
  lb : -9223372036854775808 ≤ m.L ∧ m.L ≤ 9223372036854775807
  sb : -9223372036854775808 ≤ m.S ∧ m.S ≤ 9223372036854775807

/-- the machine m lies at block b, from o on -/
def MAt (w : World) (b o : Nat) (m : Mch) : Prop := w.rangeAt b o m.cells

theorem Mch.cells_length {m : Mch} (h : m.Wf) : m.cells.length = 98 := by
  simp [Mch.cells, h.nl, h.ol]

theorem MAt.l {w : World} {b o : Nat} {m : Mch} (h : MAt w b o m) : w.cell? ⟨b, o, none⟩ = some (.int .i64 m.L) := by
  simpa using h 0 (.int .i64 m.L) (by simp [Mch.cells])

theorem MAt.s {w : World} {b o : Nat} {m : Mch} (h : MAt w b o m) : w.cell? ⟨b, o + 1, none⟩ = some (.int .i64 m.S) :=
  h 1 (.int .i64 m.S) (by simp [Mch.cells])

theorem MAt.nn {w : World} {b o : Nat} {m : Mch} (h : MAt w b o m) (hw : m.Wf) {q x : Nat} (hq : q < 16) (hx : x < 3) :
    w.cell? ⟨b, o + 2 + q * 3 + x, none⟩ = some (.int .u8 (m.n q x)) := by
  have := h (2 + (q * 3 + x)) (.int .u8 (m.n q x)) (by
    have hl := hw.nl
    simp only [Mch.cells, Mch.n]
    rw [show 2 + (q * 3 + x) = (q * 3 + x) + 1 + 1 from by omega, List.getElem?_cons_succ, List.getElem?_cons_succ, List.getElem?_map, List.getElem?_append_left (by omega),
      List.getElem?_eq_getElem (by omega : q * 3 + x < m.N.length)]
    rfl)
  rw [← this]
  congr 2
  omega

theorem MAt.oo {w : World} {b o : Nat} {m : Mch} (h : MAt w b o m) (hw : m.Wf) {q x : Nat} (hq : q < 16) (hx : x < 3) :
    w.cell? ⟨b, o + 50 + q * 3 + x, none⟩ = some (.int .u8 (m.o q x)) := by
  have := h (50 + (q * 3 + x)) (.int .u8 (m.o q x)) (by
    have hl := hw.nl
    have hl' := hw.ol
    simp only [Mch.cells, Mch.o]
    rw [show 50 + (q * 3 + x) = (48 + (q * 3 + x)) + 1 + 1 from by omega, List.getElem?_cons_succ, List.getElem?_cons_succ, List.getElem?_map, List.getElem?_append_right (by omega),
      show 48 + (q * 3 + x) - m.N.length = q * 3 + x from by omega, List.getElem?_eq_getElem (by omega : q * 3 + x < m.O.length)]
    rfl)
  rw [← this]
  congr 2
  omega

theorem MAt.below {w w' : World} {b o : Nat} {m : Mch} (h : MAt w b o m) {B : Nat} (hb : Below B w w') (hlt : b < B) : MAt w' b o m :=
  fun j v hj => (hb.cell (p := ⟨b, o + j, none⟩) hlt).trans (h j v hj)

theorem MAt.drewN {w : World} {b o : Nat} {m : Mch} (h : MAt w b o m) (n : Nat) : MAt (w.drewN n) b o m := h

theorem MAt.boxed (w : World) (m : Mch) (T : Nat) : MAt (w.alloc (.cells m.cells.toArray T)) w.heap.size 0 m := fun j v hj => by
  rw [World.cell?_alloc_at _ _ _ _ rfl]
  simpa using hj

/-- it returns v; what was there stays as it was -/
def Ret (v : Value) (w : World) (e : Ending) (w' : World) : Prop := e = .returned v ∧ Below w.heap.size w w'
/-- it returns v; memory stays as it was -/
def RetQ (v : Value) (w : World) (e : Ending) (w' : World) : Prop := e = .returned v ∧ ∃ n, w' = w.drewN n

theorem below_dN {B : Nat} {a w : World} (h : Below B a w) (n : Nat) : Below B a (w.drewN n) := ⟨h.os, h.tape, h.output, h.size, h.block⟩
theorem dN1 (w : World) (a : Nat) : ∃ n, w.drewN a = w.drewN n := ⟨_, rfl⟩
theorem dN2 (w : World) (a b : Nat) : ∃ n, (w.drewN a).drewN b = w.drewN n := ⟨_, World.drewN_drewN ..⟩
theorem retQ0 {v u : Value} {w : World} (h : v = u) : RetQ u w (.returned v) w := ⟨by rw [h], 0, rfl⟩
theorem retQ1 {v u : Value} {w : World} (h : v = u) (a : Nat) : RetQ u w (.returned v) (w.drewN a) := ⟨by rw [h], a, rfl⟩
theorem retQ2 {v u : Value} {w : World} (h : v = u) (a b : Nat) : RetQ u w (.returned v) ((w.drewN a).drewN b) := ⟨by rw [h], dN2 _ _ _⟩
theorem vint {k : IntKind} {a b : Int} (h : a = b) : Value.int k a = .int k b := by rw [h]
theorem vbool {a b : Bool} (h : a = b) : Value.bool a = .bool b := by rw [h]
theorem ret_of_eq {v u : Value} (h : v = u) : Ending.returned v = .returned u := by rw [h]

/-- one state with its entries -/
def entryP (m : Mch) (q x : Nat) : Bool :=
  if decide (m.S ≤ q) || decide (m.L ≤ x) then m.n q x == 0 && m.o q x == 0
  else decide (m.n q x < m.S) && decide (m.o q x < m.L) && (List.range x).all fun y => m.o q y != m.o q x
def rowP (m : Mch) (q : Nat) : Bool := (List.range 3).all fun x => entryP m q x
def machP (m : Mch) : Bool := inR m.L 2 3 && inR m.S 1 16 && (List.range 16).all fun q => rowP m q

end Go.Proofs.Ytmacnofkpdikiaa
