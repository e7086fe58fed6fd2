import Derived.Test.YthgkkaifdlkciaaProg
import Derived.WalkKit
import Derived.Deep.QuietTactic
import Derived.BigQuiet
import Derived.RowKitTokens
import Derived.Lib.Hide
import Derived.Deep.MidRow
import Derived.Test.YthgkkaifdlkciaaRows
import Derived.ProofKit
import Derived.OpenShut
import Derived.SizedLaws
import Derived.Carry
import Derived.Lib.SmallJoins
import Derived.LoopN
import Derived.Laws.BytesArg
import Derived.OrdersHeld
import Derived.Deep.RegionHeld3
import Derived.Deep.AppendLies
/- Contracts of the small functions: they compute with numbers and leave the world alone. -/
namespace Go.Proofs.Ythgkkaifdlkciaa
open Go.RowKit
set_option linter.unusedVariables false
set_option linter.unusedSimpArgs false

/-- a number lies in a range -/
def inR (n lo hi : Int) : Bool := decide (lo ≤ n) && decide (n ≤ hi)

theorem ret_bool {a b : Bool} (h : a = b) : Ending.returned (.bool a) = .returned (.bool b) := by rw [h]
theorem ret_int {k : IntKind} {a b : Int} (h : a = b) : Ending.returned (.int k a) = .returned (.int k b) := by rw [h]

theorem within_any (n lo hi : Int) (w : World) :
    Calls Try.prog 48 #[.int .i64 n, .int .i64 lo, .int .i64 hi] w fun e w' => e = .returned (.bool (inR n lo hi)) ∧ w = w' := by
  go_enter Try.func48, Try.ntmps48
  by_cases h : lo ≤ n
  · go_wp2
    go_ret
    exact ⟨ret_bool (by simp [inR, h]), rfl⟩
  · go_wp2
    go_ret
    exact ⟨ret_bool (by simp [inR]; omega), rfl⟩

theorem l01In_any (n lo hi : Int) (w : World) :
    Calls Try.prog 41 #[.int .i64 n, .int .i64 lo, .int .i64 hi] w fun e w' => e = .returned (.bool (inR n lo hi)) ∧ w = w' := by
  go_enter Try.func41, Try.ntmps41
  by_cases h : lo ≤ n
  · go_wp2
    go_ret
    exact ⟨ret_bool (by simp [inR, h]), rfl⟩
  · go_wp2
    go_ret
    exact ⟨ret_bool (by simp [inR]; omega), rfl⟩

theorem areLetters_any (n : Int) (w : World) :
    Calls Try.prog 47 #[.int .i64 n] w fun e w' => e = .returned (.bool (inR n 2 3)) ∧ w = w' := by
  go_enter Try.func47, Try.ntmps47
  go_wp2_with (go_at_call 48; refine (within_any _ _ _ _).mono ?_; rintro e w' ⟨rfl, rfl⟩)
  go_ret
  exact ⟨rfl, rfl⟩

theorem letter_any (x : Int) (h0 : 0 ≤ x) (h1 : x ≤ 200) (w : World) :
    Calls Try.prog 84 #[.int .i64 x] w fun e w' => e = .returned (.int .u8 (48 + x)) ∧ w = w' := by
  go_enter Try.func84, Try.ntmps84
  go_wp2
  go_ret
  exact ⟨ret_int (by omega), rfl⟩

end Go.Proofs.Ythgkkaifdlkciaa

/- Machines as data, and where they lie in memory. -/
namespace Go.Proofs.Ythgkkaifdlkciaa
open Go.RowKit
set_option linter.unusedVariables false
set_option linter.unusedSimpArgs false

structure Mch where
  L : Int
  S : Int
  N : List Int
  O : List Int

def Mch.cells (m : Mch) : List Value := .int .i64 m.L :: .int .i64 m.S :: (m.N ++ m.O).map (Value.int .u8)
def Mch.n (m : Mch) (q x : Nat) : Int := m.N[q * 3 + x]?.getD 0
def Mch.o (m : Mch) (q x : Nat) : Int := m.O[q * 3 + x]?.getD 0

structure Mch.Wf (m : Mch) : Prop where
  nl : m.N.length = 48
  ol : m.O.length = 48
  nb : ∀ i : Nat, 0 ≤ m.N[i]?.getD 0 ∧ m.N[i]?.getD 0 ≤ 255
  ob : ∀ i : Nat, 0 ≤ m.O[i]?.getD 0 ∧ m.O[i]?.getD 0 ≤ 255
  lb : -9223372036854775808 ≤ m.L ∧ m.L ≤ 9223372036854775807
  sb : -9223372036854775808 ≤ m.S ∧ m.S ≤ 9223372036854775807

/-- the machine m lies at block b, from o on -/
def MAt (w : World) (b o : Nat) (m : Mch) : Prop := w.rangeAt b o m.cells

theorem Mch.cells_length {m : Mch} (h : m.Wf) : m.cells.length = 98 := by
  simp [Mch.cells, h.nl, h.ol]

theorem MAt.l {w : World} {b o : Nat} {m : Mch} (h : MAt w b o m) : w.cell? ⟨b, o, none⟩ = some (.int .i64 m.L) := by
  simpa using h 0 (.int .i64 m.L) (by simp [Mch.cells])

theorem MAt.s {w : World} {b o : Nat} {m : Mch} (h : MAt w b o m) : w.cell? ⟨b, o + 1, none⟩ = some (.int .i64 m.S) :=
  h 1 (.int .i64 m.S) (by simp [Mch.cells])

theorem MAt.nn {w : World} {b o : Nat} {m : Mch} (h : MAt w b o m) (hw : m.Wf) {q x : Nat} (hq : q < 16) (hx : x < 3) :
    w.cell? ⟨b, o + 2 + q * 3 + x, none⟩ = some (.int .u8 (m.n q x)) := by
  have := h (2 + (q * 3 + x)) (.int .u8 (m.n q x)) (by
    have hl := hw.nl
    simp only [Mch.cells, Mch.n]
    rw [show 2 + (q * 3 + x) = (q * 3 + x) + 1 + 1 from by omega, List.getElem?_cons_succ, List.getElem?_cons_succ, List.getElem?_map, List.getElem?_append_left (by omega),
      List.getElem?_eq_getElem (by omega : q * 3 + x < m.N.length)]
    rfl)
  rw [← this]
  congr 2
  omega

theorem MAt.oo {w : World} {b o : Nat} {m : Mch} (h : MAt w b o m) (hw : m.Wf) {q x : Nat} (hq : q < 16) (hx : x < 3) :
    w.cell? ⟨b, o + 50 + q * 3 + x, none⟩ = some (.int .u8 (m.o q x)) := by
  have := h (50 + (q * 3 + x)) (.int .u8 (m.o q x)) (by
    have hl := hw.nl
    have hl' := hw.ol
    simp only [Mch.cells, Mch.o]
    rw [show 50 + (q * 3 + x) = (48 + (q * 3 + x)) + 1 + 1 from by omega, List.getElem?_cons_succ, List.getElem?_cons_succ, List.getElem?_map, List.getElem?_append_right (by omega),
      show 48 + (q * 3 + x) - m.N.length = q * 3 + x from by omega, List.getElem?_eq_getElem (by omega : q * 3 + x < m.O.length)]
    rfl)
  rw [← this]
  congr 2
  omega

theorem MAt.below {w w' : World} {b o : Nat} {m : Mch} (h : MAt w b o m) {B : Nat} (hb : Below B w w') (hlt : b < B) : MAt w' b o m :=
  fun j v hj => (hb.cell (p := ⟨b, o + j, none⟩) hlt).trans (h j v hj)

theorem MAt.drewN {w : World} {b o : Nat} {m : Mch} (h : MAt w b o m) (n : Nat) : MAt (w.drewN n) b o m := h

theorem MAt.boxed (w : World) (m : Mch) (T : Nat) : MAt (w.alloc (.cells m.cells.toArray T)) w.heap.size 0 m := fun j v hj => by
  rw [World.cell?_alloc_at _ _ _ _ rfl]
  simpa using hj

/-- it returns v; what was there stays as it was -/
def Ret (v : Value) (w : World) (e : Ending) (w' : World) : Prop := e = .returned v ∧ Below w.heap.size w w'
/-- it returns v; memory stays as it was -/
def RetQ (v : Value) (w : World) (e : Ending) (w' : World) : Prop := e = .returned v ∧ ∃ n, w' = w.drewN n

theorem below_dN {B : Nat} {a w : World} (h : Below B a w) (n : Nat) : Below B a (w.drewN n) := ⟨h.os, h.tape, h.output, h.size, h.block⟩
theorem dN2 (w : World) (a b : Nat) : ∃ n, (w.drewN a).drewN b = w.drewN n := ⟨_, World.drewN_drewN ..⟩
theorem vint {k : IntKind} {a b : Int} (h : a = b) : Value.int k a = .int k b := by rw [h]
/-- one state with its entries -/
def entryP (m : Mch) (q x : Nat) : Bool :=
  if decide (m.S ≤ q) || decide (m.L ≤ x) then m.n q x == 0 && m.o q x == 0
  else decide (m.n q x < m.S) && decide (m.o q x < m.L) && (List.range x).all fun y => m.o q y != m.o q x
def rowP (m : Mch) (q : Nat) : Bool := (List.range 3).all fun x => entryP m q x
def machP (m : Mch) : Bool := inR m.L 2 3 && inR m.S 1 16 && (List.range 16).all fun q => rowP m q

end Go.Proofs.Ythgkkaifdlkciaa

/- A law whose walk ends in 'true' and leaves what was there as it was: from the walk to the row. -/
namespace Go.Proofs.Ythgkkaifdlkciaa
open Go.ChangeShapes Go.WideShapes Go.ChangeAt Go.RowKit
set_option linter.unusedVariables false

theorem Try.own : ownKnob Try.prog.godebug = none := by kernel_rfl
theorem Try.laidOut : laidOutB Try.prog = true := by kernel_rfl

theorem trodAll_below {H : Type} {enc : TypeId × Value → H} {P : Program} (hl : laidOutB P = true) {W W' : World} (hb : Below W.heap.size W W') :
    ∀ (ts : List TypeId) (vs : List Value) (ds : List (DataW H)) (ps : List MemPlace), (ts.all fun t => P.readableRec t && decide (t < P.types.size)) = true → DataW.TrodAll enc P W 0 (fun _ => true) true ts vs ds ps → (∀ x ∈ ps, x.block < W.heap.size) →
      DataW.TrodAll enc P W' 0 (fun b => decide (b < W.heap.size)) true ts vs ds ps
  | [], vs, ds, ps, _, h, _ => by
    obtain ⟨rfl, rfl, rfl⟩ := trodAll_nil h
    exact trodAll_mk0
  | t :: ts, vs, ds, ps, hr, h, hlt => by
    obtain ⟨v, vs', d, ds', p, q, rfl, rfl, rfl, h1, h2⟩ := trodAll_cons h
    simp only [List.all_cons, Bool.and_eq_true, decide_eq_true_eq] at hr
    exact trodAll_cons_mk (Below.trod hl hr.1.1 hr.1.2 h1 hb fun x hx => hlt x (List.mem_append_left _ hx))
      (trodAll_below hl hb ts vs' ds' q (by simpa using hr.2) h2 fun x hx => hlt x (List.mem_append_right _ hx))

/-- the row's post behind a walk that answers true -/
theorem law_post {H : Type} {enc : TypeId × Value → H} {P : Program} {f : Func} {s : ChangeSpec} {W W' : World} {args : Array Value} {ds gs : List (DataW H)} {before : List MemPlace}
    (hl : laidOutB P = true) (hr : (f.params.toList.all fun t => P.readableRec t && decide (t < P.types.size)) = true) (hW : DataW.Whole enc P f.params.toList s.vars false W args.toList ds gs before) (hv : s.vars = [])
    (h1 : (s.fn H (ds ++ gs)).results = [.lit (.bool true)]) (h2 : (s.fn H (ds ++ gs)).args = ds) (h3 : (s.fn H (ds ++ gs)).vars = []) (hb : Below W.heap.size W W')
    {tb : TypeId} (ht : f.resultTypes = #[tb]) (hu : P.underlying tb = some .bool) :
    s.post enc P f false true false false W args (.bool true) W' := by
  have hW' := hW
  obtain ⟨p, q, hA, hV, rfl, _, _⟩ := hW
  rw [hv] at hV
  obtain ⟨rfl, rfl⟩ := trodVars_none hV
  have hlt : ∀ x ∈ p, x.block < W.heap.size := fun x hx => by simpa using hW'.lt x (by simpa using hx)
  refine ⟨_, _, _, [], p ++ [], [], hW', ?_, ?_, ?_, hb.frame _, fun h => by cases h⟩
  · rw [h1, ht]
    exact trodAll_mk1 (shut_bool hu true)
  · rw [h2, List.append_nil]
    exact trodAll_below hl hb _ _ _ _ hr hA hlt
  · rw [h3, hv]
    rfl

end Go.Proofs.Ythgkkaifdlkciaa

/- A machine among a law's arguments. -/
namespace Go.Proofs.Ythgkkaifdlkciaa
open Go.ChangeShapes Go.WideShapes Go.ChangeAt Go.RowKit Go.Joins
set_option linter.unusedVariables false
set_option linter.unusedSimpArgs false

theorem all_ints : ∀ (cs : List Value), (∀ i, i < cs.length → ∃ n : Int, cs[i]? = some (.int .u8 n) ∧ 0 ≤ n ∧ n ≤ 255) → ∃ N : List Int, cs = N.map (Value.int .u8) ∧ N.length = cs.length ∧ ∀ i : Nat, 0 ≤ N[i]?.getD 0 ∧ N[i]?.getD 0 ≤ 255
  | [], _ => ⟨[], rfl, rfl, fun i => by simp⟩
  | c :: cs, h => by
    obtain ⟨N, hN, hl, hb⟩ := all_ints cs (fun i hi => by have := h (i + 1) (by simp; omega); simpa using this)
    obtain ⟨n, hc, h0, h1⟩ := h 0 (by simp)
    simp at hc
    subst hc
    refine ⟨n :: N, by rw [hN]; rfl, by simp [hl], fun i => ?_⟩
    cases i with
    | zero => simp; omega
    | succ i => simpa using hb i

theorem split98 (cs : List Value) (h : cs.length = 98) : cs = cs.take 1 ++ ((cs.drop 1).take 1 ++ ((cs.drop 2).take 48 ++ (cs.drop 50).take 48)) := by
  have e1 : (cs.drop 50).take 48 = cs.drop 50 := List.take_of_length_le (by simp [h])
  have e2 : (cs.drop 2).take 48 ++ cs.drop 50 = cs.drop 2 := by
    have := List.take_append_drop 48 (cs.drop 2)
    rwa [List.drop_drop] at this
  have e3 : (cs.drop 1).take 1 ++ cs.drop 2 = cs.drop 1 := by
    have := List.take_append_drop 1 (cs.drop 1)
    rwa [List.drop_drop] at this
  rw [e1, e2, e3, List.take_append_drop]
section
variable {H : Type} {enc : TypeId × Value → H} {w : World} {base : Nat} {spare : Nat → Bool} {held : Bool}
theorem trod_u8 {n : Nat} {c : List Value} {y : DataW H × List MemPlace} (h : DataW.trod enc Try.prog w base spare held n 5 c = some y) : ∃ k : Int, c = [.int .u8 k] ∧ 0 ≤ k ∧ k ≤ 255 := by
  obtain ⟨k, rfl, _, hw⟩ := DataW.trod_int Try.underlying5 h
  refine ⟨k, rfl, ?_⟩
  simp [Lit.wf, IntKind.min, IntKind.max, IntKind.signed, IntKind.bits] at hw
  omega
theorem trod_some {P : Program} {t : TypeId} {xs : List (DataW H × List MemPlace)} {n i : Nat} {cs : List Value} (h : DataW.trod enc P w base spare held n t cs = xs[i]?) (hi : i < xs.length) : ∃ y, DataW.trod enc P w base spare held n t cs = some y :=
  ⟨xs[i], by rw [h, List.getElem?_eq_getElem hi]⟩
set_option maxRecDepth 100000 in
theorem trod_rows {n : Nat} {cs : List Value} {y : DataW H × List MemPlace} (h : DataW.trod enc Try.prog w base spare held n 23 cs = some y) :
    cs.length = 48 ∧ ∀ i, i < cs.length → ∃ n : Int, cs[i]? = some (.int .u8 n) ∧ 0 ≤ n ∧ n ≤ 255 := by
  have c36 : Try.prog.cellsOf 23 = 48 := by kernel_rfl
  have c35 : Try.prog.cellsOf 22 = 3 := by kernel_rfl
  have c3 : Try.prog.cellsOf 5 = 1 := by kernel_rfl
  obtain ⟨xs, m, rfl, _, hl, hx, hf⟩ := DataW.trod_array Try.underlying23 h
  rw [c36] at hl
  refine ⟨hl, fun i hi => ?_⟩
  obtain ⟨y1, h1⟩ := trod_some (hf (i / 3) (by omega)) (by omega)
  rw [c35] at h1
  obtain ⟨xs', m', rfl, _, hl', hx', hf'⟩ := DataW.trod_array Try.underlying22 h1
  obtain ⟨y2, h2⟩ := trod_some (hf' (i % 3) (by omega)) (by omega)
  rw [c3] at h2
  obtain ⟨k, hk, h0, h255⟩ := trod_u8 h2
  refine ⟨k, ?_, h0, h255⟩
  have := congrArg (fun l : List Value => l[0]?) hk
  simp only [List.getElem?_take, List.getElem?_drop, List.getElem?_cons_zero] at this
  rw [if_pos (by omega), if_pos (by omega)] at this
  have e : i / 3 * 3 + (i % 3 * 1 + 0) = i := by omega
  rw [← this, e]
set_option maxRecDepth 100000 in
theorem mach_of_trod {fuel : Nat} {cs : List Value} {y : DataW H × List MemPlace} (hf : DataW.trod enc Try.prog w base spare held fuel 25 cs = some y) :
    ∃ m : Mch, m.Wf ∧ cs = m.cells := by
  have c38 : Try.prog.cellsOf 25 = 98 := by kernel_rfl
  have c36 : Try.prog.cellsOf 23 = 48 := by kernel_rfl
  have c2 : Try.prog.cellsOf 2 = 1 := by kernel_rfl
  obtain ⟨y0, y1, y2, y3, n, _, hl, h0, h1, h2, h3⟩ := trod_struct4 Try.underlying25 hf
  simp only at h0 h1 h2 h3 hl
  rw [c38] at hl
  rw [c2] at h0 h1
  rw [c36] at h2 h3
  obtain ⟨L, e0, _, wL⟩ := DataW.trod_int Try.underlying2 h0
  obtain ⟨S, e1, _, wS⟩ := DataW.trod_int Try.underlying2 h1
  obtain ⟨lN, hN⟩ := trod_rows h2
  obtain ⟨lO, hO⟩ := trod_rows h3
  obtain ⟨N, eN, nN, bN⟩ := all_ints _ hN
  obtain ⟨O, eO, nO, bO⟩ := all_ints _ hO
  rw [lN] at nN
  rw [lO] at nO
  simp [Lit.wf, IntKind.min, IntKind.max, IntKind.signed, IntKind.bits] at wL wS
  refine ⟨⟨L, S, N, O⟩, ⟨nN, nO, bN, bO, wL, wS⟩, ?_⟩
  rw [split98 cs hl]
  simp only [Mch.cells]
  rw [List.map_append, ← eN, ← eO]
  have e0' : cs.take 1 = [.int .i64 L] := e0
  have e1' : (cs.drop 1).take 1 = [.int .i64 S] := e1
  rw [e0', e1']
  rfl
set_option maxRecDepth 100000 in
theorem open_mach {b0 : Nat} {r : Reach} {v : Value} {d : DataW H} {p : List MemPlace} (hv : Value.okWide Try.prog w r b0 25 v) (h : DataW.Trod enc Try.prog w base spare held 25 v d p) :
    ∃ m : Mch, m.Wf ∧ v = .agg m.cells.toArray := by
  obtain ⟨cs, rfl, hsz⟩ := okWide_struct Try.underlying25 hv
  obtain ⟨fuel, hf⟩ := h
  obtain ⟨cs⟩ := cs
  simp only [Value.cells] at hf
  obtain ⟨m, hw, rfl⟩ := mach_of_trod hf
  exact ⟨m, hw, rfl⟩
end
end Go.Proofs.Ythgkkaifdlkciaa

/- A block known whole. -/
namespace Go.Proofs.Ythgkkaifdlkciaa
open Go.RowKit
set_option linter.unusedVariables false
set_option linter.unusedSimpArgs false

/-- block b holds the cells cs, of the type T, none of them frozen -/
def Blk (w : World) (b : Nat) (cs : List Value) (T : TypeId) : Prop := w.heap[b]? = some (.cells cs.toArray T (0, 0))

theorem Blk.cell {w : World} {b T : Nat} {cs : List Value} (h : Blk w b cs T) (i : Nat) : w.cell? ⟨b, i, none⟩ = cs[i]? := by
  rw [cell_of_row w b i _ T _ h]; simp
theorem Blk.cell' {w : World} {b T : Nat} {cs : List Value} (h : Blk w b cs T) {i : Nat} {v : Value} (hv : cs[i]? = some v) : w.cell? ⟨b, i, none⟩ = some v := by rw [h.cell, hv]
theorem Blk.free {w : World} {b T : Nat} {cs : List Value} (h : Blk w b cs T) (i : Nat) : w.frozen? ⟨b, i, none⟩ = false := frozen_of_row w b i _ T h
theorem Blk.lt {w : World} {b T : Nat} {cs : List Value} (h : Blk w b cs T) : b < w.heap.size := (Array.getElem?_eq_some_iff.1 h).1
theorem Blk.below {w w' : World} {b T : Nat} {cs : List Value} (h : Blk w b cs T) {B : Nat} (hb : Below B w w') (hlt : b < B) : Blk w' b cs T := (hb.block b hlt).trans h
theorem Blk.keep {w w' : World} {b T : Nat} {cs : List Value} (h : Blk w b cs T) (hb : Below w.heap.size w w') : Blk w' b cs T := h.below hb h.lt
theorem Blk.alloc {w : World} {b T : Nat} {cs : List Value} (h : Blk w b cs T) (o : Obj) : Blk (w.alloc o) b cs T := (Below.heap_alloc w o b h.lt).trans h
theorem Blk.new (w : World) (cs : Array Value) (T : TypeId) : Blk (w.alloc (.cells cs T)) w.heap.size cs.toList T := by
  show _ = _; rw [heap_alloc_new]
theorem Blk.setCell {w : World} {b T : Nat} {cs : List Value} (h : Blk w b cs T) (i : Nat) (v : Value) : Blk (w.setCell ⟨b, i, none⟩ v) b (cs.set i v) T := by
  show _ = _
  rw [heap_setCell_same w b i _ T v h]
  simp
theorem Blk.setOther {w : World} {b T : Nat} {cs : List Value} (h : Blk w b cs T) {a : Addr} (ha : b ≠ a.block) (v : Value) : Blk (w.setCell a v) b cs T :=
  (heap_setCell_other w a b v ha).trans h
theorem Blk.range {w : World} {b T : Nat} {cs : List Value} (h : Blk w b cs T) (o : Nat) (vs : List Value) (hv : ∀ j v, vs[j]? = some v → cs[o + j]? = some v) : w.rangeAt b o vs :=
  fun j v hj => h.cell' (hv j v hj)
theorem Blk.there {w : World} {b T : Nat} {cs : List Value} (h : Blk w b cs T) (o n : Nat) (hn : o + n ≤ cs.length) : w.there b o n := fun j hj =>
  ⟨by rw [h.cell, List.getElem?_eq_getElem (by omega)]; rfl, h.free _⟩

/-- cs with vs laid over it from o on -/
def splice (cs : List Value) : Nat → List Value → List Value
  | _, [] => cs
  | o, v :: r => splice (cs.set o v) (o + 1) r
theorem Blk.setCells {b T : Nat} : ∀ (vs : List Value) {w : World} {cs : List Value} (h : Blk w b cs T) (o : Nat), Blk (w.setCells b o vs) b (splice cs o vs) T
  | [], _, _, h, _ => h
  | v :: r, _, _, h, o => Blk.setCells r (h.setCell o v) (o + 1)
theorem Blk.setsOther {b T : Nat} {cs : List Value} {c : Nat} (hb : b ≠ c) : ∀ (vs : List Value) {w : World} (h : Blk w b cs T) (o : Nat), Blk (w.setCells c o vs) b cs T
  | [], _, h, _ => h
  | v :: r, _, h, o => Blk.setsOther hb r (h.setOther hb v) (o + 1)
theorem splice_length : ∀ (vs : List Value) (cs : List Value) (o : Nat), (splice cs o vs).length = cs.length
  | [], _, _ => rfl
  | v :: r, cs, o => by rw [splice, splice_length r]; simp
theorem splice_get : ∀ (vs : List Value) (cs : List Value) (o i : Nat), (splice cs o vs)[i]? = if o ≤ i ∧ i < o + vs.length ∧ i < cs.length then vs[i - o]? else cs[i]?
  | [], cs, o, i => by simp [splice]; omega
  | v :: r, cs, o, i => by
    rw [splice, splice_get r]
    simp only [List.length_set, List.length_cons]
    by_cases h1 : o + 1 ≤ i ∧ i < o + 1 + r.length ∧ i < cs.length
    · rw [if_pos h1, if_pos (by omega), show i - o = (i - (o + 1)) + 1 by omega, List.getElem?_cons_succ]
    · rw [if_neg h1]
      by_cases h2 : i = o
      · subst h2
        by_cases h3 : i < cs.length
        · rw [if_pos (by omega), List.getElem?_set_self h3]; simp
        · rw [if_neg (by omega), List.getElem?_eq_none (by simpa using h3), List.getElem?_eq_none (by omega)]
      · rw [List.getElem?_set_ne (by omega), if_neg (by omega)]
theorem below_setCells {B b : Nat} (hB : B ≤ b) : ∀ (vs : List Value) {a w : World} (h : Below B a w) (o : Nat), Below B a (w.setCells b o vs)
  | [], _, _, h, _ => h
  | v :: r, _, _, h, o => below_setCells hB r (h.setCell (p := ⟨b, o, none⟩) hB v) (o + 1)
theorem size_setCells (b : Nat) : ∀ (vs : List Value) (w : World) (o : Nat), (w.setCells b o vs).heap.size = w.heap.size
  | [], _, _ => rfl
  | v :: r, w, o => by rw [World.setCells, size_setCells b r]; simp [World.setCell]

/-- the whole machine out of where it lies -/
theorem ld_mach {ops : Array Oper} {rest : List Oper} {o : Oper} {a : Act} {w : World} {Q : Exit → Act → World → Prop} (hwd : Region.wanted o (yielded ops a.tmps) = true) (x : Operand) (ho : o.op = .load 28 x)
    (b off : Nat) (hx : a.eval x = .pointer (some ⟨b, off, none⟩)) (m : Mch) (hm : MAt w b off m) (hw : m.Wf)
    (h : wpList Try.prog ops Q rest (a.put o.dst (.agg m.cells.toArray)) w) : wpList Try.prog ops Q (o :: rest) a w :=
  BigFrame.wpList_want hwd fun K hK => wp_load_mid 28 x ho b off hx m.cells (.struct _) hm Try.underlying28 rfl (by rw [Mch.cells_length hw]; kernel_rfl) (hK _ _ h)

/-- a whole array or struct out of where it lies; into it -/
theorem ld_row {P : Program} {ops : Array Oper} {rest : List Oper} {o : Oper} {a : Act} {w : World} {Q : Exit → Act → World → Prop} (hwd : Region.wanted o (yielded ops a.tmps) = true) (T : TypeId) (x : Operand) (ho : o.op = .load T x)
    (b off : Nat) (hx : a.eval x = .pointer (some ⟨b, off, none⟩)) (cs : List Value) (d : TypeDesc) (hr : w.rangeAt b off cs) (hu : P.underlying T = some d) (hd : d.isRow = true) (hi : (P.info? T).map (·.size) = some cs.length)
    (h : wpList P ops Q rest (a.put o.dst (.agg cs.toArray)) w) : wpList P ops Q (o :: rest) a w :=
  BigFrame.wpList_want hwd fun K hK => wp_load_mid T x ho b off hx cs d hr hu hd hi (hK _ _ h)
theorem st_row {P : Program} {ops : Array Oper} {rest : List Oper} {o : Oper} {a : Act} {w : World} {Q : Exit → Act → World → Prop} (hwd : Region.wanted o (yielded ops a.tmps) = true) (T : TypeId) (x y : Operand) (ho : o.op = .store T x y)
    (b off : Nat) (cs : List Value) (hx : a.eval x = .pointer (some ⟨b, off, none⟩)) (hy : a.eval y = .agg cs.toArray) (ht : w.there b off cs.length) (hi : (P.info? T).map (·.size) = some cs.length) (h1 : ∀ v ∈ cs, v.oneCell' = true)
    (h : wpList P ops Q rest (a.put o.dst undef) (w.setCells b off cs)) : wpList P ops Q (o :: rest) a w :=
  BigFrame.wpList_want hwd fun K hK => wp_store_mid T x y ho b off cs.toArray hx hy (by rw [List.size_toArray]; exact ht) (by rw [List.size_toArray]; exact hi) (all_oneCell_toArray h1) (hK _ _ h)
theorem splice_all {cs vs : List Value} (h : vs.length = cs.length) : splice cs 0 vs = vs := by
  apply List.ext_getElem?
  intro i
  rw [splice_get]
  by_cases hi : i < cs.length
  · rw [if_pos ⟨by omega, by omega, hi⟩]; simp
  · rw [if_neg (by omega), List.getElem?_eq_none (by omega), List.getElem?_eq_none (by omega)]
theorem Blk.all {w : World} {b T : Nat} {cs : List Value} (h : Blk w b cs T) : w.rangeAt b 0 cs := h.range 0 cs (fun j v hj => by simpa using hj)
theorem Blk.setAll {w : World} {b T : Nat} {cs vs : List Value} (h : Blk w b cs T) (hl : vs.length = cs.length) : Blk (w.setCells b 0 vs) b vs T := by
  have := h.setCells vs 0
  rwa [splice_all hl] at this

def u8s (xs : List Int) : List Value := xs.map (Value.int .u8)
theorem u8s_get {xs : List Int} {i : Nat} (h : i < xs.length) : (u8s xs)[i]? = some (.int .u8 (xs[i]?.getD 0)) := by
  simp [u8s, List.getElem?_eq_getElem h]

end Go.Proofs.Ythgkkaifdlkciaa

/- Words of letters. -/
namespace Go.Proofs.Ythgkkaifdlkciaa
open Go.RowKit
set_option linter.unusedVariables false
set_option linter.unusedSimpArgs false

/-- is a byte a letter of d? -/
def letB (d : Int) (c : Int) : Bool := decide (48 ≤ c) && decide (c - 48 < d)
def letsUpto (d : Int) (s : ByteArray) (k : Nat) : Bool := (List.range k).all fun i => letB d ((s[i]!).toNat : Int)
def letsP (d : Int) (s : ByteArray) : Bool := letsUpto d s s.size

end Go.Proofs.Ythgkkaifdlkciaa

/- What a machine is, and what its states make of words: no program in sight. -/
namespace Go.Proofs.Ythgkkaifdlkciaa
open Go.RowKit
set_option linter.unusedVariables false
set_option linter.unusedSimpArgs false

/-- m is a machine -/
structure Mch.Ok (m : Mch) : Prop where
  l2 : 2 ≤ m.L
  l3 : m.L ≤ 3
  s1 : 1 ≤ m.S
  s16 : m.S ≤ 16
  nx : ∀ q x : Nat, (q : Int) < m.S → (x : Int) < m.L → m.n q x < m.S
  ot : ∀ q x : Nat, (q : Int) < m.S → (x : Int) < m.L → m.o q x < m.L
  inj : ∀ q x y : Nat, (q : Int) < m.S → (x : Int) < m.L → (y : Int) < m.L → m.o q x = m.o q y → x = y

theorem entry_act' {m : Mch} {q k : Nat} (h : (q : Int) < m.S ∧ (k : Int) < m.L) :
    entryP m q k = (decide (m.n q k < m.S) && decide (m.o q k < m.L) && (List.range k).all fun y => m.o q y != m.o q k) := by
  have : (decide (m.S ≤ (q : Int)) || decide (m.L ≤ (k : Int))) = false := by
    rw [Bool.or_eq_false_iff, decide_eq_false_iff_not, decide_eq_false_iff_not]; omega
  simp only [entryP, this]
  simp

theorem mach_ok {m : Mch} (h : machP m = true) : m.Ok := by
  simp only [machP, inR, Bool.and_eq_true, decide_eq_true_eq, List.all_eq_true, List.mem_range] at h
  obtain ⟨⟨⟨a1, a2⟩, a3, a4⟩, h⟩ := h
  have he : ∀ q x : Nat, (q : Int) < m.S → (x : Int) < m.L → m.n q x < m.S ∧ m.o q x < m.L ∧ ∀ y, y < x → m.o q y ≠ m.o q x := fun q x hq hx => by
    have := h q (by omega)
    simp only [rowP, List.all_eq_true, List.mem_range] at this
    have := this x (by omega)
    rw [entry_act' ⟨hq, hx⟩] at this
    simp only [Bool.and_eq_true, decide_eq_true_eq, List.all_eq_true, List.mem_range, bne_iff_ne] at this
    exact ⟨this.1.1, this.1.2, this.2⟩
  refine ⟨a1, a2, a3, a4, fun q x hq hx => (he q x hq hx).1, fun q x hq hx => (he q x hq hx).2.1, fun q x y hq hx hy e => ?_⟩
  rcases Nat.lt_trichotomy x y with c | c | c
  · exact absurd e ((he q y hq hy).2.2 x c)
  · exact c
  · exact absurd e.symm ((he q x hq hx).2.2 y c)

/-- the number of states, of letters -/
def Mch.s (m : Mch) : Nat := m.S.toNat
def Mch.l (m : Mch) : Nat := m.L.toNat
/-- where a state goes on to, and what it puts out -/
def Mch.nn (m : Mch) (q x : Nat) : Nat := (m.n q x).toNat
def Mch.on (m : Mch) (q x : Nat) : Nat := (m.o q x).toNat

theorem Mch.Ok.S_eq {m : Mch} (h : m.Ok) : m.S = (m.s : Int) := by have := h.s1; simp only [Mch.s]; omega
theorem Mch.Ok.L_eq {m : Mch} (h : m.Ok) : m.L = (m.l : Int) := by have := h.l2; simp only [Mch.l]; omega
theorem Mch.Ok.s_le {m : Mch} (h : m.Ok) : m.s ≤ 16 := by have := h.s16; have := h.S_eq; omega
theorem Mch.Ok.s_pos {m : Mch} (h : m.Ok) : 1 ≤ m.s := by have := h.s1; have := h.S_eq; omega
theorem Mch.Ok.l_le {m : Mch} (h : m.Ok) : m.l ≤ 3 := by have := h.l3; have := h.L_eq; omega
theorem Mch.Ok.l_ge {m : Mch} (h : m.Ok) : 2 ≤ m.l := by have := h.l2; have := h.L_eq; omega
theorem Mch.Ok.n_eq {m : Mch} (h : m.Ok) (hw : m.Wf) {q x : Nat} (hq : q < m.s) (hx : x < m.l) : m.n q x = (m.nn q x : Int) := by
  have := (hw.nb (q * 3 + x)).1; simp only [Mch.nn, Mch.n]; omega
theorem Mch.Ok.o_eq {m : Mch} (h : m.Ok) (hw : m.Wf) {q x : Nat} (hq : q < m.s) (hx : x < m.l) : m.o q x = (m.on q x : Int) := by
  have := (hw.ob (q * 3 + x)).1; simp only [Mch.on, Mch.o]; omega
theorem Mch.Ok.nn_lt {m : Mch} (h : m.Ok) (hw : m.Wf) {q x : Nat} (hq : q < m.s) (hx : x < m.l) : m.nn q x < m.s := by
  have := h.nx q x (by rw [h.S_eq]; omega) (by rw [h.L_eq]; omega)
  rw [h.n_eq hw hq hx, h.S_eq] at this; omega
theorem Mch.Ok.on_lt {m : Mch} (h : m.Ok) (hw : m.Wf) {q x : Nat} (hq : q < m.s) (hx : x < m.l) : m.on q x < m.l := by
  have := h.ot q x (by rw [h.S_eq]; omega) (by rw [h.L_eq]; omega)
  rw [h.o_eq hw hq hx, h.L_eq] at this; omega
/-- what a state leads letters to, and its section there -/
def runL (m : Mch) : Nat → List Nat → List Nat × Nat
  | q, [] => ([], q)
  | q, x :: t => (m.on q x :: (runL m (m.nn q x) t).1, (runL m (m.nn q x) t).2)
theorem runL_append (m : Mch) : ∀ (l r : List Nat) (q : Nat), runL m q (l ++ r) = ((runL m q l).1 ++ (runL m (runL m q l).2 r).1, (runL m (runL m q l).2 r).2)
  | [], r, q => rfl
  | x :: t, r, q => by simp only [List.cons_append, runL, runL_append m t r]
theorem runL_snoc (m : Mch) (l : List Nat) (x q : Nat) : runL m q (l ++ [x]) = ((runL m q l).1 ++ [m.on (runL m q l).2 x], m.nn (runL m q l).2 x) := by
  rw [runL_append]; rfl
theorem runL_length (m : Mch) : ∀ (l : List Nat) (q : Nat), (runL m q l).1.length = l.length
  | [], _ => rfl
  | x :: t, q => by simp only [runL, List.length_cons, runL_length m t]
theorem runL_state {m : Mch} (h : m.Ok) (hw : m.Wf) : ∀ (l : List Nat) (q : Nat), q < m.s → (∀ x ∈ l, x < m.l) → (runL m q l).2 < m.s
  | [], q, hq, _ => hq
  | x :: t, q, hq, hl => runL_state h hw t _ (h.nn_lt hw hq (hl x (List.mem_cons_self ..))) fun y hy => hl y (List.mem_cons_of_mem _ hy)
theorem runL_letters {m : Mch} (h : m.Ok) (hw : m.Wf) : ∀ (l : List Nat) (q : Nat), q < m.s → (∀ x ∈ l, x < m.l) → ∀ y ∈ (runL m q l).1, y < m.l
  | [], q, hq, _, y, hy => by simp [runL] at hy
  | x :: t, q, hq, hl, y, hy => by
    simp only [runL, List.mem_cons] at hy
    rcases hy with rfl | hy
    · exact h.on_lt hw hq (hl x (List.mem_cons_self ..))
    · exact runL_letters h hw t _ (h.nn_lt hw hq (hl x (List.mem_cons_self ..))) (fun y hy => hl y (List.mem_cons_of_mem _ hy)) y hy

/-- the letters of a text -/
def lts (s : ByteArray) : List Nat := s.data.toList.map fun b => b.toNat - 48
theorem lts_length (s : ByteArray) : (lts s).length = s.size := by simp [lts]
theorem lts_get {s : ByteArray} {k : Nat} (hk : k < s.size) : (lts s)[k]? = some ((s[k]).toNat - 48) := by
  have h' : k < s.data.toList.length := by simpa using hk
  simp only [lts, List.getElem?_map, List.getElem?_eq_getElem h', Option.map_some]
  rfl
theorem lets_at {d : Int} {s : ByteArray} (h : letsP d s = true) {k : Nat} (hk : k < s.size) : 48 ≤ (s[k]).toNat ∧ ((s[k]).toNat : Int) - 48 < d := by
  simp only [letsP, letsUpto, List.all_eq_true, List.mem_range] at h
  have := h k hk
  rw [getElem!_pos s k hk] at this
  simp only [letB, Bool.and_eq_true, decide_eq_true_eq] at this
  exact ⟨by omega, this.2⟩
theorem lts_lt {m : Mch} (hm : m.Ok) {s : ByteArray} (h : letsP m.L s = true) : ∀ x ∈ lts s, x < m.l := fun x hx => by
  obtain ⟨k, hk⟩ := List.mem_iff_getElem?.1 hx
  have hlt : k < s.size := by have := (List.getElem?_eq_some_iff.1 hk).1; rwa [lts_length] at this
  rw [lts_get hlt] at hk
  have := lets_at h hlt
  have := hm.L_eq
  have := Option.some.inj hk
  omega
theorem lts_take_succ {s : ByteArray} {k : Nat} (hk : k < s.size) : (lts s).take (k + 1) = (lts s).take k ++ [(s[k]).toNat - 48] := by
  have h' : k < (lts s).length := by rw [lts_length]; exact hk
  rw [List.take_succ_eq_append_getElem h']
  congr 2
  have := lts_get hk
  rw [List.getElem?_eq_getElem h'] at this
  exact Option.some.inj this

/-- letters as a text -/
def txt (l : List Nat) : ByteArray := strOfNums (l.map fun x : Nat => ((48 + x : Nat) : Int))

end Go.Proofs.Ythgkkaifdlkciaa

/- Equal states of a table: no program in sight. -/
namespace Go.Proofs.Ythgkkaifdlkciaa
open Go.RowKit
set_option linter.unusedVariables false
set_option linter.unusedSimpArgs false

structure Tbl where
  n : Nat
  d : Nat
  nx : Nat → Nat → Nat
  ot : Nat → Nat → Nat
section
variable (t : Tbl)
end
end Go.Proofs.Ythgkkaifdlkciaa

/- Trivial states: no program in sight. -/
namespace Go.Proofs.Ythgkkaifdlkciaa
set_option linter.unusedVariables false
set_option linter.unusedSimpArgs false

/-- q leads the words of at most r letters to themselves -/
def trivK (m : Mch) : Nat → Nat → Bool
  | 0, _ => true
  | r + 1, q => (List.range m.l).all fun x => m.on q x == x && trivK m r (m.nn q x)
def Triv (m : Mch) (q : Nat) : Prop := ∀ r, trivK m r q = true
def trivB (m : Mch) (q : Nat) : Bool := decide (q < m.s) && trivK m m.s q

theorem trivK_succ {m : Mch} {r q : Nat} : trivK m (r + 1) q = true ↔ ∀ x, x < m.l → m.on q x = x ∧ trivK m r (m.nn q x) = true := by
  simp [trivK, List.all_eq_true]
theorem trivK_mono {m : Mch} : ∀ (r q : Nat), trivK m (r + 1) q = true → trivK m r q = true
  | 0, q, _ => rfl
  | r + 1, q, h => by
    rw [trivK_succ] at h ⊢
    exact fun x hx => ⟨(h x hx).1, trivK_mono r _ (h x hx).2⟩
theorem trivK_le {m : Mch} {q : Nat} : ∀ (d r : Nat), trivK m (r + d) q = true → trivK m r q = true
  | 0, r, h => h
  | d + 1, r, h => trivK_le d r (trivK_mono _ _ h)
theorem Triv.out {m : Mch} {q : Nat} (h : Triv m q) {x : Nat} (hx : x < m.l) : m.on q x = x := (trivK_succ.1 (h 1) x hx).1
theorem Triv.next {m : Mch} {q : Nat} (h : Triv m q) {x : Nat} (hx : x < m.l) : Triv m (m.nn q x) := fun r => (trivK_succ.1 (h (r + 1)) x hx).2

/-- whatever set of states keeps all letters and is closed is trivial -/
theorem triv_of_closed {m : Mch} (hok : m.Ok) (hwf : m.Wf) (p : Nat → Bool) (h : ∀ q, q < m.s → p q = true → ∀ x, x < m.l → m.on q x = x ∧ p (m.nn q x) = true) :
    ∀ q, q < m.s → p q = true → Triv m q := fun q hq hp r => by
  induction r generalizing q with
  | zero => rfl
  | succ r ih =>
    rw [trivK_succ]
    exact fun x hx => ⟨(h q hq hp x hx).1, ih _ (hok.nn_lt hwf hq hx) (h q hq hp x hx).2⟩

/-- how many states lead the words of r letters to themselves -/
def cntK (m : Mch) (r : Nat) : Nat := ((List.range m.s).filter fun q => trivK m r q).length

theorem filter_len_lt {p p' : Nat → Bool} : ∀ (l : List Nat), (∀ q ∈ l, p' q = true → p q = true) → (∃ q ∈ l, p q = true ∧ p' q = false) → (l.filter p').length < (l.filter p).length
  | [], _, ⟨q, hq, _⟩ => by simp at hq
  | a :: t, h, ⟨q, hq, h1, h2⟩ => by
    have hle : (t.filter p').length ≤ (t.filter p).length := by
      clear hq h1 h2
      induction t with
      | nil => simp
      | cons b t ih =>
        have := ih (fun q hq => h q (by simp only [List.mem_cons] at hq ⊢; rcases hq with rfl | hq <;> simp [*]))
        have hb := h b (by simp)
        simp only [List.filter_cons]
        cases e : p' b <;> cases e2 : p b <;> simp_all <;> omega
    have ha := h a (by simp)
    simp only [List.mem_cons] at hq
    simp only [List.filter_cons]
    rcases hq with rfl | hq
    · simp [h1, h2]; omega
    · have := filter_len_lt t (fun q hq => h q (by simp [hq])) ⟨q, hq, h1, h2⟩
      cases e : p' a <;> cases e2 : p a <;> simp_all <;> omega

theorem cntK_lt {m : Mch} {r : Nat} (h : ∃ q, q < m.s ∧ trivK m r q = true ∧ trivK m (r + 1) q = false) : cntK m (r + 1) < cntK m r := by
  obtain ⟨q, hq, h1, h2⟩ := h
  exact filter_len_lt _ (fun q _ => trivK_mono r q) ⟨q, by simpa using hq, h1, h2⟩
theorem cntK_zero (m : Mch) : cntK m 0 = m.s := by
  have : (List.range m.s).filter (fun q => trivK m 0 q) = List.range m.s := List.filter_eq_self.2 (fun _ _ => rfl)
  rw [cntK, this, List.length_range]
/-- a round that turns nothing: all is done -/
theorem triv_of_still {m : Mch} (hok : m.Ok) (hwf : m.Wf) {r : Nat} (h : ∀ q, q < m.s → trivK m r q = true → trivK m (r + 1) q = true) {q : Nat} (hq : q < m.s) (hp : trivK m r q = true) : Triv m q :=
  triv_of_closed hok hwf (trivK m r) (fun q hq hp => trivK_succ.1 (h q hq hp)) q hq hp

theorem still_or {m : Mch} : ∀ r, (∃ k, k ≤ r ∧ ∀ q, q < m.s → trivK m k q = true → trivK m (k + 1) q = true) ∨ cntK m (r + 1) + (r + 1) ≤ m.s
  | 0 => by
    by_cases h : ∃ q, q < m.s ∧ trivK m 0 q = true ∧ trivK m (0 + 1) q = false
    · have := cntK_lt h
      have := cntK_zero m
      right; omega
    · left
      refine ⟨0, Nat.le_refl _, fun q hq hp => ?_⟩
      cases e : trivK m (0 + 1) q
      · exact absurd ⟨q, hq, hp, e⟩ h
      · rfl
  | r + 1 => by
    rcases still_or (m := m) r with ⟨k, hk, h⟩ | h0
    · exact .inl ⟨k, by omega, h⟩
    · by_cases h : ∃ q, q < m.s ∧ trivK m (r + 1) q = true ∧ trivK m (r + 1 + 1) q = false
      · have := cntK_lt h
        right; omega
      · left
        refine ⟨r + 1, Nat.le_refl _, fun q hq hp => ?_⟩
        cases e : trivK m (r + 1 + 1) q
        · exact absurd ⟨q, hq, hp, e⟩ h
        · rfl

theorem triv_of_many {m : Mch} (hok : m.Ok) (hwf : m.Wf) {q : Nat} (hq : q < m.s) (h : trivK m m.s q = true) : Triv m q := by
  rcases still_or (m := m) m.s with ⟨k, hk, hs⟩ | h0
  · exact triv_of_still hok hwf hs hq (trivK_le (m.s - k) k (by rw [show k + (m.s - k) = m.s by omega]; exact h))
  · omega
theorem trivB_iff {m : Mch} (hok : m.Ok) (hwf : m.Wf) {q : Nat} (hq : q < m.s) : trivB m q = true ↔ Triv m q := by
  simp only [trivB, Bool.and_eq_true, decide_eq_true_eq]
  exact ⟨fun h => triv_of_many hok hwf hq h.2, fun h => ⟨hq, h _⟩⟩

/-! The reference's rounds: it writes into the list that it reads. -/
structure TInv (m : Mch) (tv : Nat → Bool) (r : Nat) : Prop where
  keep : ∀ q, q < m.s → Triv m q → tv q = true
  tells : ∀ q, q < m.s → tv q = true → trivK m r q = true
  none : ∀ q, m.s ≤ q → tv q = false
def upd (tv : Nat → Bool) (j : Nat) (b : Bool) : Nat → Bool := fun q => if q = j then b else tv q
structure TInv2 (m : Mch) (tv : Nat → Bool) (r j : Nat) : Prop extends TInv m tv r where
  done : ∀ q, q < j → q < m.s → tv q = true → trivK m (r + 1) q = true
structure TInv3 (m : Mch) (tv : Nat → Bool) (r j x : Nat) : Prop extends TInv2 m tv r j where
  part : tv j = true → ∀ y, y < x → m.on j y = y ∧ trivK m r (m.nn j y) = true

theorem TInv.start {m : Mch} {tv : Nat → Bool} (h1 : ∀ q, q < m.s → tv q = true) (h2 : ∀ q, m.s ≤ q → tv q = false) : TInv m tv 0 := ⟨fun q hq _ => h1 q hq, fun _ _ _ => rfl, h2⟩
theorem TInv.begin {m : Mch} {tv : Nat → Bool} {r : Nat} (h : TInv m tv r) : TInv2 m tv r 0 := ⟨h, fun q hq => by omega⟩
theorem TInv2.begin {m : Mch} {tv : Nat → Bool} {r j : Nat} (h : TInv2 m tv r j) : TInv3 m tv r j 0 := ⟨h, fun _ y hy => by omega⟩
theorem TInv3.step {m : Mch} (hok : m.Ok) (hwf : m.Wf) {tv : Nat → Bool} {r j x : Nat} (hj : j < m.s) (hx : x < m.l) (h : TInv3 m tv r j x) {b : Bool} (hb : b = (tv j && (m.on j x == x) && tv (m.nn j x))) :
    TInv3 m (upd tv j b) r j (x + 1) := by
  have hle : ∀ q, upd tv j b q = true → tv q = true := fun q hq => by
    simp only [upd] at hq
    split at hq
    · rename_i e; rw [hb, Bool.and_eq_true, Bool.and_eq_true] at hq; rw [e]; exact hq.1.1
    · exact hq
  refine ⟨⟨⟨fun q hq ht => ?_, fun q hq ht => h.tells q hq (hle q ht), fun q hq => ?_⟩, fun q hqj hq ht => ?_⟩, fun ht y hy => ?_⟩
  · simp only [upd]
    split
    · rename_i e; subst e
      rw [hb, h.keep q hq ht, ht.out hx, h.keep _ (hok.nn_lt hwf hq hx) (ht.next hx)]; simp
    · exact h.keep q hq ht
  · simp only [upd]
    rw [if_neg (by omega)]
    exact h.none q hq
  · exact h.done q hqj hq (hle q ht)
  · have hb1 : b = true := by simpa [upd] using ht
    rw [hb, Bool.and_eq_true, Bool.and_eq_true, beq_iff_eq] at hb1
    by_cases e : y = x
    · subst e; exact ⟨hb1.1.2, h.tells _ (hok.nn_lt hwf hj hx) hb1.2⟩
    · exact h.part hb1.1.1 y (by omega)
theorem TInv3.fin {m : Mch} {tv : Nat → Bool} {r j : Nat} (h : TInv3 m tv r j m.l) : TInv2 m tv r (j + 1) := ⟨h.toTInv, fun q hqj hq ht => by
  by_cases e : q = j
  · subst e; rw [trivK_succ]; exact h.part ht
  · exact h.done q (by omega) hq ht⟩
theorem TInv2.fin {m : Mch} {tv : Nat → Bool} {r : Nat} (h : TInv2 m tv r m.s) : TInv m tv (r + 1) := ⟨h.keep, fun q hq ht => h.done q hq hq ht, h.none⟩
theorem TInv.fin {m : Mch} (hok : m.Ok) (hwf : m.Wf) {tv : Nat → Bool} {r : Nat} (hr : m.s ≤ r) (h : TInv m tv r) : tv = trivB m := by
  funext q
  by_cases hq : q < m.s
  · rw [Bool.eq_iff_iff, trivB_iff hok hwf hq]
    exact ⟨fun ht => triv_of_many hok hwf hq (trivK_le (r - m.s) m.s (by rw [show m.s + (r - m.s) = r by omega]; exact h.tells q hq ht)), h.keep q hq⟩
  · rw [h.none q (by omega)]
    simp [trivB, hq]

end Go.Proofs.Ythgkkaifdlkciaa

/- Group words: normal words, images, sections, the search through the sections; no program in sight. -/
namespace Go.Proofs.Ythgkkaifdlkciaa
open Go.RowKit
set_option linter.unusedVariables false
set_option linter.unusedSimpArgs false

abbrev Wd := List Int
/-! the inverse machine -/
/-! normal words -/
/-! images and sections -/
section
variable {m : Mch} (hok : m.Ok) (hwf : m.Wf)
include hok hwf
/-! the inverse machine is a machine -/
end
/-! the search through the sections -/
end Go.Proofs.Ythgkkaifdlkciaa

/- A region in drawn order whose loads are read ahead of stores to the same cells: S is held until one of the operations L (the stores) has come up. -/
namespace Go.Proofs.Ythgkkaifdlkciaa
open Go.RowKit
set_option linter.unusedVariables false
set_option linter.unusedSimpArgs false
section
variable {P : Program} {ops : Array Oper} {Q : Exit → Act → World → Prop} {md : Region.Mode} {S : World → Prop} {L : List Nat}

def Upto (S : World → Prop) (L : List Nat) (listed : Array Bool) (w : World) : Prop := S w ∨ ∃ l ∈ L, listed.getD l true = true

def AnyS (P : Program) (md : Region.Mode) (ops : Array Oper) (Q : Exit → Act → World → Prop) (S : World → Prop) (L : List Nat) : Nat → Array Bool → Act → World → Prop
  | 0, listed, a, w => Region.ready md ops listed = [] ∧ Q .normal a w
  | n + 1, listed, a, w => (Region.ready md ops listed = [] → Q .normal a w) ∧
    ∀ i ∈ Region.ready md ops listed, wpOp P ops Q i (fun a' w' => Upto S L (listed.setIfInBounds i true) w' ∧ AnyS P md ops Q S L n (listed.setIfInBounds i true) a' w') a w

theorem AnyS.any : ∀ (n : Nat) (listed : Array Bool) (a : Act) (w : World), AnyS P md ops Q S L n listed a w → wpAny P md ops Q n listed a w
  | 0, _, _, _, h => h
  | n + 1, _, _, _, h => ⟨h.1, fun i hi => wpOp_mono (fun a' w' h' => AnyS.any n _ a' w' h'.2) (h.2 i hi)⟩

theorem Upto.less {listed : Array Bool} {w : World} {i : Nat} (hL : i ∉ L) (h : Upto S L (listed.setIfInBounds i true) w) : Upto S L listed w :=
  h.imp id fun ⟨l, hl, h⟩ => ⟨l, hl, by
    have hne : i ≠ l := fun e => hL (by rw [e]; exact hl)
    rwa [getD_set_ne true hne] at h⟩
theorem Upto.more {listed : Array Bool} {w : World} {i : Nat} (hL : i ∉ L) (h : Upto S L listed w) : Upto S L (listed.setIfInBounds i true) w :=
  h.imp id fun ⟨l, hl, h⟩ => ⟨l, hl, by
    have hne : i ≠ l := fun e => hL (by rw [e]; exact hl)
    rwa [getD_set_ne true hne]⟩

/-- Each of L waits for i. -/
def WaitFor (md : Region.Mode) (ops : Array Oper) (L : List Nat) (i : Nat) : Bool := L.all fun l => match ops[l]? with | some o => o.after.any fun e => Region.binds md e && e.on == i | none => true

theorem AnyS.first {S' : World → Prop} {i : Nat} {oi : Oper} {v : Value} (hi : ops[i]? = some oi) (hsel : ∀ (j : Nat) (o : Oper) cs b, ops[j]? = some o → o.op ≠ .select cs b)
    (hQ : ∀ c a w, Q (.panic c) (a.put oi.dst v) w → Q (.panic c) a w) (hL : i ∉ L) (hS' : (∀ w, S' w) ∨ (S' = S ∧ WaitFor md ops L i = true)) :
    ∀ (n : Nat) (listed : Array Bool) (a : Act) (w : World),
      (∀ j oj, ops[j]? = some oj → j ≠ i → listed.getD j true = false → (∀ e ∈ oj.after, Region.binds md e = true → e.on ≠ i) → oi.apart ops oj = true) →
      ((∀ w, S' w) ∨ ∀ l ∈ L, listed.getD l true = false) →
      i ∈ Region.ready md ops listed → YieldsIf P ops S' oi v a → Upto S L listed w →
      AnyS P md ops Q S L n (listed.setIfInBounds i true) (a.put oi.dst v) w → AnyS P md ops Q S L (n + 1) listed a w := by
  have now : ∀ (listed : Array Bool) w, ((∀ w, S' w) ∨ ∀ l ∈ L, listed.getD l true = false) → Upto S L listed w → S' w := fun listed w hd h => by
    rcases hd with hd | hd
    · exact hd w
    · rcases hS' with hS' | ⟨rfl, _⟩
      · exact hS' w
      · rcases h with h | ⟨l, hl, h⟩
        · exact h
        · rw [hd l hl] at h; cases h
  intro n
  induction n with
  | zero =>
    intro listed a w _ hd hr hy hS H
    refine ⟨fun h => (by rw [h] at hr; cases hr), fun j hj => ?_⟩
    by_cases hji : j = i
    · subst hji; exact hy.wpOp hi (now _ _ hd hS) ⟨hS.more hL, H⟩
    · have := ready_mono hj hji
      rw [H.1] at this
      cases this
  | succ n ih =>
    intro listed a w hfree hd hr hy hS H
    refine ⟨fun h => (by rw [h] at hr; cases hr), fun j hj => ?_⟩
    by_cases hji : j = i
    · subst hji; exact hy.wpOp hi (now _ _ hd hS) ⟨hS.more hL, H⟩
    · have h1 := H.2 j (ready_mono hj hji)
      obtain ⟨hjun, oj, hoj, hall⟩ := mem_ready.1 hj
      have h0 := (mem_ready.1 hr).1
      have hnot : ∀ e ∈ oj.after, Region.binds md e = true → e.on ≠ i := fun e he hb heq => by
        have h1 := hall e he hb
        rw [heq] at h1
        rcases Nat.lt_or_ge i listed.size with h' | h'
        · simp [h'] at h0 h1; rw [h0] at h1; cases h1
        · simp [Array.getElem?_eq_none h'] at h1
      have h2 := wpOp_putIf hoj (hfree j oj hoj hji hjun hnot) (fun cs b => hsel i oi cs b hi) (fun cs b => hsel j oj cs b hoj) hQ hy h1
      have hfree' : ∀ k ok, ops[k]? = some ok → k ≠ i → (listed.setIfInBounds j true).getD k true = false →
          (∀ e ∈ ok.after, Region.binds md e = true → e.on ≠ i) → oi.apart ops ok = true := fun k ok hk hki hun hno => by
        refine hfree k ok hk hki ?_ hno
        by_cases hjk : j = k
        · subst hjk; exact hjun
        · rw [getD_set_ne true hjk] at hun; exact hun
      have hd' : (∀ w, S' w) ∨ ∀ l ∈ L, (listed.setIfInBounds j true).getD l true = false := by
        rcases hd with hd | hd
        · exact .inl hd
        rcases hS' with hS' | ⟨_, hw⟩
        · exact .inl hS'
        refine .inr fun l hl => ?_
        by_cases e : j = l
        · exfalso
          subst e
          have := (List.all_eq_true.1 hw) j hl
          rw [hoj] at this
          obtain ⟨e, he, hb⟩ := Array.any_eq_true'.1 this
          simp only [Bool.and_eq_true, beq_iff_eq] at hb
          exact hnot e he hb.1 hb.2
        · rw [getD_set_ne true e]; exact hd l hl
      refine wpOp_mono (fun a' w' h3 => ?_) h2
      have hS2 : Upto S L (listed.setIfInBounds j true) w' := by
        have := h3.2.1
        rw [Array.setIfInBounds_comm _ _ (Ne.symm hji)] at this
        exact this.less hL
      refine ⟨hS2, ih (listed.setIfInBounds j true) a' w' hfree' hd' (ready_mono hr (Ne.symm hji)) h3.1 hS2 ?_⟩
      rw [Array.setIfInBounds_comm _ _ hji]
      exact h3.2.2

/-- what yields in every world is taken first -/
theorem AnyS.take {i : Nat} {oi : Oper} {v : Value} {n : Nat} {listed : Array Bool} {a : Act} {w : World} (hi : ops.toList[i]? = some oi)
    (hs : Region.noSelect ops = true) (hf : Region.free md ops listed i = true) (hr : (Region.ready md ops listed).contains i = true) (hL : L.contains i = false)
    (hQ : ∀ c a w, Q (.panic c) (a.put oi.dst v) w → Q (.panic c) a w) (hw : Region.wanted oi (yielded ops a.tmps) = true) (hy : ∀ w, (execOp a.eval oi).run P w = .ok (.value v) w) (hS : Upto S L listed w)
    (h : Upto S L (listed.setIfInBounds i true) w → AnyS P md ops Q S L n (listed.setIfInBounds i true) (a.put oi.dst v) w) : AnyS P md ops Q S L (n + 1) listed a w :=
  AnyS.first (S' := fun _ => True) (by rwa [Array.getElem?_toList] at hi) (Region.noSelect_spec hs) hQ (by simpa using hL) (.inl fun _ => trivial) n listed a w (Region.free_spec (by rwa [Array.getElem?_toList] at hi) hf) (.inl fun _ => trivial) (by simpa using hr) (.inl ⟨hw, fun w _ => hy w⟩) hS (h (hS.more (by simpa using hL)))
/-- what yields in every world that meets S is taken first, ahead of the stores -/
theorem AnyS.takeS {i : Nat} {oi : Oper} {v : Value} {n : Nat} {listed : Array Bool} {a : Act} {w : World} (hi : ops.toList[i]? = some oi)
    (hs : Region.noSelect ops = true) (hf : Region.free md ops listed i = true) (hr : (Region.ready md ops listed).contains i = true) (hL : L.contains i = false)
    (hW : WaitFor md ops L i = true) (hd : (L.all fun l => !listed.getD l true) = true)
    (hQ : ∀ c a w, Q (.panic c) (a.put oi.dst v) w → Q (.panic c) a w) (hw : Region.wanted oi (yielded ops a.tmps) = true) (hy : ∀ w, S w → (execOp a.eval oi).run P w = .ok (.value v) w) (hS : Upto S L listed w)
    (h : Upto S L (listed.setIfInBounds i true) w → AnyS P md ops Q S L n (listed.setIfInBounds i true) (a.put oi.dst v) w) : AnyS P md ops Q S L (n + 1) listed a w :=
  AnyS.first (S' := S) (by rwa [Array.getElem?_toList] at hi) (Region.noSelect_spec hs) hQ (by simpa using hL) (.inr ⟨rfl, hW⟩) n listed a w (Region.free_spec (by rwa [Array.getElem?_toList] at hi) hf) (.inr fun l hl => by simpa using (List.all_eq_true.1 hd) l hl) (by simpa using hr) (.inl ⟨hw, hy⟩) hS (h (hS.more (by simpa using hL)))

def AllS (P : Program) (md : Region.Mode) (ops : Array Oper) (Q : Exit → Act → World → Prop) (S : World → Prop) (L : List Nat) (n : Nat) (listed : Array Bool) (a : Act) (w : World) (rs : List Nat) : Prop :=
  ∀ i ∈ rs, wpOp P ops Q i (fun a' w' => Upto S L (listed.setIfInBounds i true) w' ∧ AnyS P md ops Q S L n (listed.setIfInBounds i true) a' w') a w
theorem AllS.nil {n : Nat} {listed : Array Bool} {a : Act} {w : World} : AllS P md ops Q S L n listed a w [] := fun _ h => by cases h
theorem AllS.cons {n : Nat} {listed : Array Bool} {a : Act} {w : World} {i : Nat} {o : Oper} {rs : List Nat} (ho : ops.toList[i]? = some o)
    (h : ∀ K' : Act → World → Prop, Shut (∀ a w, Upto S L (listed.setIfInBounds i true) w → (Upto S L (listed.setIfInBounds i true) w → AnyS P md ops Q S L n (listed.setIfInBounds i true) a w) → K' a w) → if Region.wanted o (yielded ops a.tmps) = true then Oper.wp P o a w K' Q else K' (a.put o.dst undef) w)
    (hs : AllS P md ops Q S L n listed a w rs) : AllS P md ops Q S L n listed a w (i :: rs) := fun j hj => by
  rcases List.mem_cons.1 hj with rfl | hj
  · exact wpOp_step (by rwa [Array.getElem?_toList] at ho) (fun K' hK => h K' (fun a w hS hW => hK a w ⟨hS, hW hS⟩))
  · exact hs j hj
theorem AnyS.branch {rs : List Nat} {n : Nat} {listed : Array Bool} {a : Act} {w : World} (hr : Region.ready md ops listed = rs) (hne : rs ≠ [])
    (h : AllS P md ops Q S L n listed a w rs) : AnyS P md ops Q S L (n + 1) listed a w := ⟨fun h0 => absurd (hr ▸ h0) hne, hr ▸ h⟩
theorem AnyS.done {listed : Array Bool} {a : Act} {w : World} (hr : Region.ready md ops listed = []) (h : Q .normal a w) : ∀ n, AnyS P md ops Q S L n listed a w
  | 0 => ⟨hr, h⟩
  | _ + 1 => ⟨fun _ => h, by rw [hr]; simp⟩
/-- back into the region, the world a letter of which Φ is known -/
theorem Shut.abs {n : Nat} {listed : Array Bool} {K : Act → World → Prop} (hK : Shut (∀ a w, Upto S L listed w → (Upto S L listed w → AnyS P md ops Q S L n listed a w) → K a w)) (Φ : World → Prop) {a : Act} {w : World} (hΦ : Φ w)
    (hS : ∀ w, Φ w → S w) (h : ∀ w, Φ w → Upto S L listed w → AnyS P md ops Q S L n listed a w) : K a w := hK.out a w (.inl (hS w hΦ)) fun hU => h w hΦ hU
/-- the beginning -/
theorem region_S {id : Nat} {a : Act} {w : World} (S : World → Prop) (L : List Nat) (n : Nat) (hn : ops.size = n) (hm : P.follows .mixedOrders = true) (hS : S w.drew)
    (h : Upto S L (Array.replicate n false) w.drew → AnyS P .any ops Q S L n (Array.replicate n false) a w.drew) : (Code.region id ops true).wp P Q a w := by
  subst hn
  exact wp_region_any hm (AnyS.any _ _ _ _ (h (.inl hS)))
end
end Go.Proofs.Ythgkkaifdlkciaa
