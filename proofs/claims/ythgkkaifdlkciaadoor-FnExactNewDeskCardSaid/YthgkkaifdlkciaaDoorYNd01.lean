import Derived.Test.YthgkkaifdlkciaaDoorRows
import Derived.WalkKit
import Derived.ProofKit
import Derived.OpenShut
import Derived.SizedLaws
import Derived.Carry
import Derived.HandedShaped
import Derived.LaidMore
import Derived.Lay
import Derived.PinnedBridge
import Derived.Stop.Joined
import Derived.Shelf.Vars
import Derived.Test.YthgkkaifdlkciaaDoorProg
import Derived.Deep.QuietTactic
import Derived.BigQuiet
import Derived.RowKitTokens
import Derived.Lib.Hide
import Derived.Deep.MidRow
import Derived.Lib.SmallJoins
import Derived.LoopN
import Derived.Laws.BytesArg
import Derived.OrdersHeld
import Derived.Deep.RegionHeld3
import Derived.Deep.AppendLies
/- A law whose walk ends in 'true' and leaves what was there as it was: from the walk to the row. -/
namespace Go.Proofs.YthgkkaifdlkciaaDoor
open Go.ChangeShapes Go.WideShapes Go.ChangeAt Go.RowKit
set_option linter.unusedVariables false

theorem Tryd.own : ownKnob Tryd.prog.godebug = none := by kernel_rfl
theorem Tryd.laidOut : laidOutB Tryd.prog = true := by kernel_rfl

theorem trodAll_below {H : Type} {enc : TypeId × Value → H} {P : Program} (hl : laidOutB P = true) {W W' : World} (hb : Below W.heap.size W W') :
    ∀ (ts : List TypeId) (vs : List Value) (ds : List (DataW H)) (ps : List MemPlace), (ts.all fun t => P.readableRec t && decide (t < P.types.size)) = true → DataW.TrodAll enc P W 0 (fun _ => true) true ts vs ds ps → (∀ x ∈ ps, x.block < W.heap.size) →
      DataW.TrodAll enc P W' 0 (fun b => decide (b < W.heap.size)) true ts vs ds ps
  | [], vs, ds, ps, _, h, _ => by
    obtain ⟨rfl, rfl, rfl⟩ := trodAll_nil h
    exact trodAll_mk0
  | t :: ts, vs, ds, ps, hr, h, hlt => by
    obtain ⟨v, vs', d, ds', p, q, rfl, rfl, rfl, h1, h2⟩ := trodAll_cons h
    simp only [List.all_cons, Bool.and_eq_true, decide_eq_true_eq] at hr
    exact trodAll_cons_mk (Below.trod hl hr.1.1 hr.1.2 h1 hb fun x hx => hlt x (List.mem_append_left _ hx))
      (trodAll_below hl hb ts vs' ds' q (by simpa using hr.2) h2 fun x hx => hlt x (List.mem_append_right _ hx))

/-- the row's post behind a walk that answers true -/
theorem law_post {H : Type} {enc : TypeId × Value → H} {P : Program} {f : Func} {s : ChangeSpec} {W W' : World} {args : Array Value} {ds gs : List (DataW H)} {before : List MemPlace}
    (hl : laidOutB P = true) (hr : (f.params.toList.all fun t => P.readableRec t && decide (t < P.types.size)) = true) (hW : DataW.Whole enc P f.params.toList s.vars false W args.toList ds gs before) (hv : s.vars = [])
    (h1 : (s.fn H (ds ++ gs)).results = [.lit (.bool true)]) (h2 : (s.fn H (ds ++ gs)).args = ds) (h3 : (s.fn H (ds ++ gs)).vars = []) (hb : Below W.heap.size W W')
    {tb : TypeId} (ht : f.resultTypes = #[tb]) (hu : P.underlying tb = some .bool) :
    s.post enc P f false true false false W args (.bool true) W' := by
  have hW' := hW
  obtain ⟨p, q, hA, hV, rfl, _, _⟩ := hW
  rw [hv] at hV
  obtain ⟨rfl, rfl⟩ := trodVars_none hV
  have hlt : ∀ x ∈ p, x.block < W.heap.size := fun x hx => by simpa using hW'.lt x (by simpa using hx)
  refine ⟨_, _, _, [], p ++ [], [], hW', ?_, ?_, ?_, hb.frame _, fun h => by cases h⟩
  · rw [h1, ht]
    exact trodAll_mk1 (shut_bool hu true)
  · rw [h2, List.append_nil]
    exact trodAll_below hl hb _ _ _ _ hr hA hlt
  · rw [h3, hv]
    rfl

end Go.Proofs.YthgkkaifdlkciaaDoor

/- The wrap of a row that lists variables, the world's shape kept. -/
namespace Go.Proofs.YthgkkaifdlkciaaDoor
open Go.ChangeShapes Go.WideShapes Go.ChangeAt Go.RowKit
set_option linter.unusedVariables false

theorem returnsIn_laid {H : Type} {enc : TypeId × Value → H} {a : Assume} {C : Checked} {os : Os} {f : FuncId} {fn : Func} {s : ChangeSpec} {conds : List PathCond} {apart fresh handsOn again : Bool} {X : World → Array Value → Prop}
    (hX : ∀ (w w' : World) (args : Array Value), w.heap = w'.heap → X w args → X w' args)
    (own : ownKnob C.prog.godebug = none) (started : os.Started) (noInit : C.prog.inits.idxOf? f = none) (hfn : C.prog.funcs[f]? = some fn)
    (witness : ∃ (w : World) (tape : Tape) (i : Input), w.os = os ∧ (w.forCall tape i).Shaped C.prog ∧ i.vars = [] ∧ Input.okWide C.prog (w.forCall tape i) .any w.heap.size f i ∧
      ((s.pre enc C.prog fn conds apart (w.forCall tape i).memory i.args ∧ X (w.forCall tape i).memory i.args) ∧ sizedMet enc C.prog fn (OpenSpec.ofChange s) apart (w.forCall tape i).memory i.args) ∧ a.holds C.prog (lone (Frame.enter C.prog f i.args .normal) [] (w.forCall tape i)))
    (contract : ∀ (W : World) (base : Nat) (args : Array Value) (ds gs : List (DataW H)) (before : List MemPlace),
      (∀ (j : Nat) t v, fn.params[j]? = some t → args[j]? = some v → Value.okWide C.prog W .any base t v) →
      DataW.Whole enc C.prog fn.params.toList s.vars apart W args.toList ds gs before →
      W.ShapedOpen C.prog →
      Calls C.prog f args W fun e W' => ∃ v, e = .returned v ∧ s.post enc C.prog fn apart fresh handsOn again W args v W') :
    ReturnsInHanded a C os f .any (fun w args => (s.pre enc C.prog fn conds apart w args ∧ X w args) ∧ sizedMet enc C.prog fn (OpenSpec.ofChange s) apart w args) (s.post enc C.prog fn apart fresh handsOn again) := by
  refine returnsInHanded_of_calls own started noInit witness ?_
  intro w tape i _ hsh _ hok hpre hholds
  obtain ⟨_, _, _, fn', hfn', _, _, _, _, hval⟩ := hok
  have e : fn' = fn := Option.some.inj (hfn'.symm.trans hfn)
  subst e
  obtain ⟨⟨⟨ds, gs, before, hw, hc⟩, hx⟩, hz⟩ := hpre
  have hw' := DataW.Whole.of_heap (w' := w.forCall tape i) (by rfl) hw
  refine (contract (w.forCall tape i) w.heap.size i.args ds gs before hval hw' hsh).mono fun e W' ⟨v, he, hp⟩ => ?_
  subst he
  exact ChangeSpec.post_blind hp

/-- the variables that the rows of this seat list -/
def laidV : List (String × DataW Unit) := [("unicode/utf8.acceptRanges", Rows.laid_unicode_utf8_acceptRanges), ("unicode/utf8.first", Rows.laid_unicode_utf8_first)]
/-- the cell of the variable that the search for a byte reads -/
theorem maxLen_cell {w : World} (h : w.ShapedOpen Tryd.prog) (g : Nat) (hg : g < Tryd.prog.globals.size) (h0 : ((begin Tryd.prog (fun _ _ => 0) default).world.heap[g]?).bind Obj.row? = some (#[.int .i64 0], 3)) : ∃ m, w.cell? ⟨g, 0, none⟩ = some (.int .i64 m) :=
  cell_of_shapedOpen_int (zero := #[.int .i64 0]) (t := 3) h hg h0 rfl (by kernel_rfl) (by kernel_rfl) Tryd.underlying3
end Go.Proofs.YthgkkaifdlkciaaDoor

/- Contracts of the small functions: they compute with numbers and leave the world alone. -/
namespace Go.Proofs.YthgkkaifdlkciaaDoor
open Go.RowKit
set_option linter.unusedVariables false
set_option linter.unusedSimpArgs false

/-- a number lies in a range -/
def inR (n lo hi : Int) : Bool := decide (lo ≤ n) && decide (n ≤ hi)

theorem ret_bool {a b : Bool} (h : a = b) : Ending.returned (.bool a) = .returned (.bool b) := by rw [h]
theorem ret_int {k : IntKind} {a b : Int} (h : a = b) : Ending.returned (.int k a) = .returned (.int k b) := by rw [h]

theorem within_any (n lo hi : Int) (w : World) :
    Calls Tryd.prog 36 #[.int .i64 n, .int .i64 lo, .int .i64 hi] w fun e w' => e = .returned (.bool (inR n lo hi)) ∧ w = w' := by
  go_enter Tryd.func36, Tryd.ntmps36
  by_cases h : lo ≤ n
  · go_wp2
    go_ret
    exact ⟨ret_bool (by simp [inR, h]), rfl⟩
  · go_wp2
    go_ret
    exact ⟨ret_bool (by simp [inR]; omega), rfl⟩

theorem l01In_any (n lo hi : Int) (w : World) :
    Calls Tryd.prog 32 #[.int .i64 n, .int .i64 lo, .int .i64 hi] w fun e w' => e = .returned (.bool (inR n lo hi)) ∧ w = w' := by
  go_enter Tryd.func32, Tryd.ntmps32
  by_cases h : lo ≤ n
  · go_wp2
    go_ret
    exact ⟨ret_bool (by simp [inR, h]), rfl⟩
  · go_wp2
    go_ret
    exact ⟨ret_bool (by simp [inR]; omega), rfl⟩

theorem areLetters_any (n : Int) (w : World) :
    Calls Tryd.prog 35 #[.int .i64 n] w fun e w' => e = .returned (.bool (inR n 2 3)) ∧ w = w' := by
  go_enter Tryd.func35, Tryd.ntmps35
  go_wp2_with (go_at_call 36; refine (within_any _ _ _ _).mono ?_; rintro e w' ⟨rfl, rfl⟩)
  go_ret
  exact ⟨rfl, rfl⟩

theorem letter_any (x : Int) (h0 : 0 ≤ x) (h1 : x ≤ 200) (w : World) :
    Calls Tryd.prog 38 #[.int .i64 x] w fun e w' => e = .returned (.int .u8 (48 + x)) ∧ w = w' := by
  go_enter Tryd.func38, Tryd.ntmps38
  go_wp2
  go_ret
  exact ⟨ret_int (by omega), rfl⟩

end Go.Proofs.YthgkkaifdlkciaaDoor

/- Machines as data, and where they lie in memory. -/
namespace Go.Proofs.YthgkkaifdlkciaaDoor
open Go.RowKit
set_option linter.unusedVariables false
set_option linter.unusedSimpArgs false

structure Mch where
  L : Int
  S : Int
  N : List Int
  O : List Int

def Mch.cells (m : Mch) : List Value := .int .i64 m.L :: .int .i64 m.S :: (m.N ++ m.O).map (Value.int .u8)
def Mch.n (m : Mch) (q x : Nat) : Int := m.N[q * 3 + x]?.getD 0
def Mch.o (m : Mch) (q x : Nat) : Int := m.O[q * 3 + x]?.getD 0

structure Mch.Wf (m : Mch) : Prop where
  nl : m.N.length = 48
  ol : m.O.length = 48
  nb : ∀ i : Nat, 0 ≤ m.N[i]?.getD 0 ∧ m.N[i]?.getD 0 ≤ 255
  ob : ∀ i : Nat, 0 ≤ m.O[i]?.getD 0 ∧ m.O[i]?.getD 0 ≤ 255
  lb : -9223372036854775808 ≤ m.L ∧ m.L ≤ 9223372036854775807
  sb : -9223372036854775808 ≤ m.S ∧ m.S ≤ 9223372036854775807

/-- the machine m lies at block b, from o on -/
def MAt (w : World) (b o : Nat) (m : Mch) : Prop := w.rangeAt b o m.cells

theorem Mch.cells_length {m : Mch} (h : m.Wf) : m.cells.length = 98 := by
  simp [Mch.cells, h.nl, h.ol]

theorem MAt.l {w : World} {b o : Nat} {m : Mch} (h : MAt w b o m) : w.cell? ⟨b, o, none⟩ = some (.int .i64 m.L) := by
  simpa using h 0 (.int .i64 m.L) (by simp [Mch.cells])

theorem MAt.s {w : World} {b o : Nat} {m : Mch} (h : MAt w b o m) : w.cell? ⟨b, o + 1, none⟩ = some (.int .i64 m.S) :=
  h 1 (.int .i64 m.S) (by simp [Mch.cells])

theorem MAt.nn {w : World} {b o : Nat} {m : Mch} (h : MAt w b o m) (hw : m.Wf) {q x : Nat} (hq : q < 16) (hx : x < 3) :
    w.cell? ⟨b, o + 2 + q * 3 + x, none⟩ = some (.int .u8 (m.n q x)) := by
  have := h (2 + (q * 3 + x)) (.int .u8 (m.n q x)) (by
    have hl := hw.nl
    simp only [Mch.cells, Mch.n]
    rw [show 2 + (q * 3 + x) = (q * 3 + x) + 1 + 1 from by omega, List.getElem?_cons_succ, List.getElem?_cons_succ, List.getElem?_map, List.getElem?_append_left (by omega),
      List.getElem?_eq_getElem (by omega : q * 3 + x < m.N.length)]
    rfl)
  rw [← this]
  congr 2
  omega

theorem MAt.oo {w : World} {b o : Nat} {m : Mch} (h : MAt w b o m) (hw : m.Wf) {q x : Nat} (hq : q < 16) (hx : x < 3) :
    w.cell? ⟨b, o + 50 + q * 3 + x, none⟩ = some (.int .u8 (m.o q x)) := by
  have := h (50 + (q * 3 + x)) (.int .u8 (m.o q x)) (by
    have hl := hw.nl
    have hl' := hw.ol
    simp only [Mch.cells, Mch.o]
    rw [show 50 + (q * 3 + x) = (48 + (q * 3 + x)) + 1 + 1 from by omega, List.getElem?_cons_succ, List.getElem?_cons_succ, List.getElem?_map, List.getElem?_append_right (by omega),
      show 48 + (q * 3 + x) - m.N.length = q * 3 + x from by omega, List.getElem?_eq_getElem (by omega : q * 3 + x < m.O.length)]
    rfl)
  rw [← this]
  congr 2
  omega

theorem MAt.below {w w' : World} {b o : Nat} {m : Mch} (h : MAt w b o m) {B : Nat} (hb : Below B w w') (hlt : b < B) : MAt w' b o m :=
  fun j v hj => (hb.cell (p := ⟨b, o + j, none⟩) hlt).trans (h j v hj)

theorem MAt.drewN {w : World} {b o : Nat} {m : Mch} (h : MAt w b o m) (n : Nat) : MAt (w.drewN n) b o m := h

theorem MAt.boxed (w : World) (m : Mch) (T : Nat) : MAt (w.alloc (.cells m.cells.toArray T)) w.heap.size 0 m := fun j v hj => by
  rw [World.cell?_alloc_at _ _ _ _ rfl]
  simpa using hj

/-- it returns v; what was there stays as it was -/
def Ret (v : Value) (w : World) (e : Ending) (w' : World) : Prop := e = .returned v ∧ Below w.heap.size w w'
/-- it returns v; memory stays as it was -/
def RetQ (v : Value) (w : World) (e : Ending) (w' : World) : Prop := e = .returned v ∧ ∃ n, w' = w.drewN n

theorem below_dN {B : Nat} {a w : World} (h : Below B a w) (n : Nat) : Below B a (w.drewN n) := ⟨h.os, h.tape, h.output, h.size, h.block⟩
/-- one state with its entries -/
def entryP (m : Mch) (q x : Nat) : Bool :=
  if decide (m.S ≤ q) || decide (m.L ≤ x) then m.n q x == 0 && m.o q x == 0
  else decide (m.n q x < m.S) && decide (m.o q x < m.L) && (List.range x).all fun y => m.o q y != m.o q x
def rowP (m : Mch) (q : Nat) : Bool := (List.range 3).all fun x => entryP m q x
def machP (m : Mch) : Bool := inR m.L 2 3 && inR m.S 1 16 && (List.range 16).all fun q => rowP m q

end Go.Proofs.YthgkkaifdlkciaaDoor

/- A machine among a law's arguments. -/
namespace Go.Proofs.YthgkkaifdlkciaaDoor
open Go.ChangeShapes Go.WideShapes Go.ChangeAt Go.RowKit Go.Joins
set_option linter.unusedVariables false
set_option linter.unusedSimpArgs false

section
variable {H : Type} {enc : TypeId × Value → H} {w : World} {base : Nat} {spare : Nat → Bool} {held : Bool}
end
end Go.Proofs.YthgkkaifdlkciaaDoor

/- A block known whole. -/
namespace Go.Proofs.YthgkkaifdlkciaaDoor
open Go.RowKit
set_option linter.unusedVariables false
set_option linter.unusedSimpArgs false

/-- block b holds the cells cs, of the type T, none of them frozen -/
def Blk (w : World) (b : Nat) (cs : List Value) (T : TypeId) : Prop := w.heap[b]? = some (.cells cs.toArray T (0, 0))

theorem Blk.cell {w : World} {b T : Nat} {cs : List Value} (h : Blk w b cs T) (i : Nat) : w.cell? ⟨b, i, none⟩ = cs[i]? := by
  rw [cell_of_row w b i _ T _ h]; simp
theorem Blk.cell' {w : World} {b T : Nat} {cs : List Value} (h : Blk w b cs T) {i : Nat} {v : Value} (hv : cs[i]? = some v) : w.cell? ⟨b, i, none⟩ = some v := by rw [h.cell, hv]
theorem Blk.free {w : World} {b T : Nat} {cs : List Value} (h : Blk w b cs T) (i : Nat) : w.frozen? ⟨b, i, none⟩ = false := frozen_of_row w b i _ T h
theorem Blk.lt {w : World} {b T : Nat} {cs : List Value} (h : Blk w b cs T) : b < w.heap.size := (Array.getElem?_eq_some_iff.1 h).1
theorem Blk.below {w w' : World} {b T : Nat} {cs : List Value} (h : Blk w b cs T) {B : Nat} (hb : Below B w w') (hlt : b < B) : Blk w' b cs T := (hb.block b hlt).trans h
theorem Blk.keep {w w' : World} {b T : Nat} {cs : List Value} (h : Blk w b cs T) (hb : Below w.heap.size w w') : Blk w' b cs T := h.below hb h.lt
theorem Blk.drewN {w : World} {b T : Nat} {cs : List Value} (h : Blk w b cs T) (n : Nat) : Blk (w.drewN n) b cs T := h
theorem Blk.alloc {w : World} {b T : Nat} {cs : List Value} (h : Blk w b cs T) (o : Obj) : Blk (w.alloc o) b cs T := (Below.heap_alloc w o b h.lt).trans h
theorem Blk.new (w : World) (cs : Array Value) (T : TypeId) : Blk (w.alloc (.cells cs T)) w.heap.size cs.toList T := by
  show _ = _; rw [heap_alloc_new]
theorem Blk.setCell {w : World} {b T : Nat} {cs : List Value} (h : Blk w b cs T) (i : Nat) (v : Value) : Blk (w.setCell ⟨b, i, none⟩ v) b (cs.set i v) T := by
  show _ = _
  rw [heap_setCell_same w b i _ T v h]
  simp
theorem Blk.setOther {w : World} {b T : Nat} {cs : List Value} (h : Blk w b cs T) {a : Addr} (ha : b ≠ a.block) (v : Value) : Blk (w.setCell a v) b cs T :=
  (heap_setCell_other w a b v ha).trans h
theorem Blk.range {w : World} {b T : Nat} {cs : List Value} (h : Blk w b cs T) (o : Nat) (vs : List Value) (hv : ∀ j v, vs[j]? = some v → cs[o + j]? = some v) : w.rangeAt b o vs :=
  fun j v hj => h.cell' (hv j v hj)
theorem Blk.there {w : World} {b T : Nat} {cs : List Value} (h : Blk w b cs T) (o n : Nat) (hn : o + n ≤ cs.length) : w.there b o n := fun j hj =>
  ⟨by rw [h.cell, List.getElem?_eq_getElem (by omega)]; rfl, h.free _⟩

/-- cs with vs laid over it from o on -/
def splice (cs : List Value) : Nat → List Value → List Value
  | _, [] => cs
  | o, v :: r => splice (cs.set o v) (o + 1) r
theorem Blk.setCells {b T : Nat} : ∀ (vs : List Value) {w : World} {cs : List Value} (h : Blk w b cs T) (o : Nat), Blk (w.setCells b o vs) b (splice cs o vs) T
  | [], _, _, h, _ => h
  | v :: r, _, _, h, o => Blk.setCells r (h.setCell o v) (o + 1)
theorem Blk.setsOther {b T : Nat} {cs : List Value} {c : Nat} (hb : b ≠ c) : ∀ (vs : List Value) {w : World} (h : Blk w b cs T) (o : Nat), Blk (w.setCells c o vs) b cs T
  | [], _, h, _ => h
  | v :: r, _, h, o => Blk.setsOther hb r (h.setOther hb v) (o + 1)
theorem splice_get : ∀ (vs : List Value) (cs : List Value) (o i : Nat), (splice cs o vs)[i]? = if o ≤ i ∧ i < o + vs.length ∧ i < cs.length then vs[i - o]? else cs[i]?
  | [], cs, o, i => by simp [splice]; omega
  | v :: r, cs, o, i => by
    rw [splice, splice_get r]
    simp only [List.length_set, List.length_cons]
    by_cases h1 : o + 1 ≤ i ∧ i < o + 1 + r.length ∧ i < cs.length
    · rw [if_pos h1, if_pos (by omega), show i - o = (i - (o + 1)) + 1 by omega, List.getElem?_cons_succ]
    · rw [if_neg h1]
      by_cases h2 : i = o
      · subst h2
        by_cases h3 : i < cs.length
        · rw [if_pos (by omega), List.getElem?_set_self h3]; simp
        · rw [if_neg (by omega), List.getElem?_eq_none (by simpa using h3), List.getElem?_eq_none (by omega)]
      · rw [List.getElem?_set_ne (by omega), if_neg (by omega)]
theorem below_setCells {B b : Nat} (hB : B ≤ b) : ∀ (vs : List Value) {a w : World} (h : Below B a w) (o : Nat), Below B a (w.setCells b o vs)
  | [], _, _, h, _ => h
  | v :: r, _, _, h, o => below_setCells hB r (h.setCell (p := ⟨b, o, none⟩) hB v) (o + 1)
theorem size_setCells (b : Nat) : ∀ (vs : List Value) (w : World) (o : Nat), (w.setCells b o vs).heap.size = w.heap.size
  | [], _, _ => rfl
  | v :: r, w, o => by rw [World.setCells, size_setCells b r]; simp [World.setCell]

/-- the whole machine out of where it lies -/
theorem ld_mach {ops : Array Oper} {rest : List Oper} {o : Oper} {a : Act} {w : World} {Q : Exit → Act → World → Prop} (hwd : Region.wanted o (yielded ops a.tmps) = true) (x : Operand) (ho : o.op = .load 25 x)
    (b off : Nat) (hx : a.eval x = .pointer (some ⟨b, off, none⟩)) (m : Mch) (hm : MAt w b off m) (hw : m.Wf)
    (h : wpList Tryd.prog ops Q rest (a.put o.dst (.agg m.cells.toArray)) w) : wpList Tryd.prog ops Q (o :: rest) a w :=
  BigFrame.wpList_want hwd fun K hK => wp_load_mid 25 x ho b off hx m.cells (.struct _) hm Tryd.underlying25 rfl (by rw [Mch.cells_length hw]; kernel_rfl) (hK _ _ h)

/-- a whole array or struct out of where it lies; into it -/
theorem ld_row {P : Program} {ops : Array Oper} {rest : List Oper} {o : Oper} {a : Act} {w : World} {Q : Exit → Act → World → Prop} (hwd : Region.wanted o (yielded ops a.tmps) = true) (T : TypeId) (x : Operand) (ho : o.op = .load T x)
    (b off : Nat) (hx : a.eval x = .pointer (some ⟨b, off, none⟩)) (cs : List Value) (d : TypeDesc) (hr : w.rangeAt b off cs) (hu : P.underlying T = some d) (hd : d.isRow = true) (hi : (P.info? T).map (·.size) = some cs.length)
    (h : wpList P ops Q rest (a.put o.dst (.agg cs.toArray)) w) : wpList P ops Q (o :: rest) a w :=
  BigFrame.wpList_want hwd fun K hK => wp_load_mid T x ho b off hx cs d hr hu hd hi (hK _ _ h)
theorem st_row {P : Program} {ops : Array Oper} {rest : List Oper} {o : Oper} {a : Act} {w : World} {Q : Exit → Act → World → Prop} (hwd : Region.wanted o (yielded ops a.tmps) = true) (T : TypeId) (x y : Operand) (ho : o.op = .store T x y)
    (b off : Nat) (cs : List Value) (hx : a.eval x = .pointer (some ⟨b, off, none⟩)) (hy : a.eval y = .agg cs.toArray) (ht : w.there b off cs.length) (hi : (P.info? T).map (·.size) = some cs.length) (h1 : ∀ v ∈ cs, v.oneCell' = true)
    (h : wpList P ops Q rest (a.put o.dst undef) (w.setCells b off cs)) : wpList P ops Q (o :: rest) a w :=
  BigFrame.wpList_want hwd fun K hK => wp_store_mid T x y ho b off cs.toArray hx hy (by rw [List.size_toArray]; exact ht) (by rw [List.size_toArray]; exact hi) (all_oneCell_toArray h1) (hK _ _ h)
theorem splice_all {cs vs : List Value} (h : vs.length = cs.length) : splice cs 0 vs = vs := by
  apply List.ext_getElem?
  intro i
  rw [splice_get]
  by_cases hi : i < cs.length
  · rw [if_pos ⟨by omega, by omega, hi⟩]; simp
  · rw [if_neg (by omega), List.getElem?_eq_none (by omega), List.getElem?_eq_none (by omega)]
theorem Blk.all {w : World} {b T : Nat} {cs : List Value} (h : Blk w b cs T) : w.rangeAt b 0 cs := h.range 0 cs (fun j v hj => by simpa using hj)
def u8s (xs : List Int) : List Value := xs.map (Value.int .u8)
theorem u8s_get {xs : List Int} {i : Nat} (h : i < xs.length) : (u8s xs)[i]? = some (.int .u8 (xs[i]?.getD 0)) := by
  simp [u8s, List.getElem?_eq_getElem h]

end Go.Proofs.YthgkkaifdlkciaaDoor

/- Words of letters. -/
namespace Go.Proofs.YthgkkaifdlkciaaDoor
open Go.RowKit
set_option linter.unusedVariables false
set_option linter.unusedSimpArgs false

end Go.Proofs.YthgkkaifdlkciaaDoor

/- What a machine is, and what its states make of words: no program in sight. -/
namespace Go.Proofs.YthgkkaifdlkciaaDoor
open Go.RowKit
set_option linter.unusedVariables false
set_option linter.unusedSimpArgs false

/-- m is a machine -/
structure Mch.Ok (m : Mch) : Prop where
  l2 : 2 ≤ m.L
  l3 : m.L ≤ 3
  s1 : 1 ≤ m.S
  s16 : m.S ≤ 16
  nx : ∀ q x : Nat, (q : Int) < m.S → (x : Int) < m.L → m.n q x < m.S
  ot : ∀ q x : Nat, (q : Int) < m.S → (x : Int) < m.L → m.o q x < m.L
  inj : ∀ q x y : Nat, (q : Int) < m.S → (x : Int) < m.L → (y : Int) < m.L → m.o q x = m.o q y → x = y

theorem entry_act' {m : Mch} {q k : Nat} (h : (q : Int) < m.S ∧ (k : Int) < m.L) :
    entryP m q k = (decide (m.n q k < m.S) && decide (m.o q k < m.L) && (List.range k).all fun y => m.o q y != m.o q k) := by
  have : (decide (m.S ≤ (q : Int)) || decide (m.L ≤ (k : Int))) = false := by
    rw [Bool.or_eq_false_iff, decide_eq_false_iff_not, decide_eq_false_iff_not]; omega
  simp only [entryP, this]
  simp

theorem mach_ok {m : Mch} (h : machP m = true) : m.Ok := by
  simp only [machP, inR, Bool.and_eq_true, decide_eq_true_eq, List.all_eq_true, List.mem_range] at h
  obtain ⟨⟨⟨a1, a2⟩, a3, a4⟩, h⟩ := h
  have he : ∀ q x : Nat, (q : Int) < m.S → (x : Int) < m.L → m.n q x < m.S ∧ m.o q x < m.L ∧ ∀ y, y < x → m.o q y ≠ m.o q x := fun q x hq hx => by
    have := h q (by omega)
    simp only [rowP, List.all_eq_true, List.mem_range] at this
    have := this x (by omega)
    rw [entry_act' ⟨hq, hx⟩] at this
    simp only [Bool.and_eq_true, decide_eq_true_eq, List.all_eq_true, List.mem_range, bne_iff_ne] at this
    exact ⟨this.1.1, this.1.2, this.2⟩
  refine ⟨a1, a2, a3, a4, fun q x hq hx => (he q x hq hx).1, fun q x hq hx => (he q x hq hx).2.1, fun q x y hq hx hy e => ?_⟩
  rcases Nat.lt_trichotomy x y with c | c | c
  · exact absurd e ((he q y hq hy).2.2 x c)
  · exact c
  · exact absurd e.symm ((he q x hq hx).2.2 y c)

/-- the number of states, of letters -/
def Mch.s (m : Mch) : Nat := m.S.toNat
def Mch.l (m : Mch) : Nat := m.L.toNat
/-- where a state goes on to, and what it puts out -/
def Mch.nn (m : Mch) (q x : Nat) : Nat := (m.n q x).toNat
def Mch.on (m : Mch) (q x : Nat) : Nat := (m.o q x).toNat

theorem Mch.Ok.S_eq {m : Mch} (h : m.Ok) : m.S = (m.s : Int) := by have := h.s1; simp only [Mch.s]; omega
theorem Mch.Ok.L_eq {m : Mch} (h : m.Ok) : m.L = (m.l : Int) := by have := h.l2; simp only [Mch.l]; omega
theorem Mch.Ok.s_le {m : Mch} (h : m.Ok) : m.s ≤ 16 := by have := h.s16; have := h.S_eq; omega
theorem Mch.Ok.s_pos {m : Mch} (h : m.Ok) : 1 ≤ m.s := by have := h.s1; have := h.S_eq; omega
theorem Mch.Ok.l_le {m : Mch} (h : m.Ok) : m.l ≤ 3 := by have := h.l3; have := h.L_eq; omega
theorem Mch.Ok.l_ge {m : Mch} (h : m.Ok) : 2 ≤ m.l := by have := h.l2; have := h.L_eq; omega
theorem Mch.Ok.n_eq {m : Mch} (h : m.Ok) (hw : m.Wf) {q x : Nat} (hq : q < m.s) (hx : x < m.l) : m.n q x = (m.nn q x : Int) := by
  have := (hw.nb (q * 3 + x)).1; simp only [Mch.nn, Mch.n]; omega
theorem Mch.Ok.o_eq {m : Mch} (h : m.Ok) (hw : m.Wf) {q x : Nat} (hq : q < m.s) (hx : x < m.l) : m.o q x = (m.on q x : Int) := by
  have := (hw.ob (q * 3 + x)).1; simp only [Mch.on, Mch.o]; omega
theorem Mch.Ok.nn_lt {m : Mch} (h : m.Ok) (hw : m.Wf) {q x : Nat} (hq : q < m.s) (hx : x < m.l) : m.nn q x < m.s := by
  have := h.nx q x (by rw [h.S_eq]; omega) (by rw [h.L_eq]; omega)
  rw [h.n_eq hw hq hx, h.S_eq] at this; omega
theorem Mch.Ok.on_lt {m : Mch} (h : m.Ok) (hw : m.Wf) {q x : Nat} (hq : q < m.s) (hx : x < m.l) : m.on q x < m.l := by
  have := h.ot q x (by rw [h.S_eq]; omega) (by rw [h.L_eq]; omega)
  rw [h.o_eq hw hq hx, h.L_eq] at this; omega
/-- letters as a text -/
def txt (l : List Nat) : ByteArray := strOfNums (l.map fun x : Nat => ((48 + x : Nat) : Int))

end Go.Proofs.YthgkkaifdlkciaaDoor

/- Equal states of a table: no program in sight. -/
namespace Go.Proofs.YthgkkaifdlkciaaDoor
open Go.RowKit
set_option linter.unusedVariables false
set_option linter.unusedSimpArgs false

structure Tbl where
  n : Nat
  d : Nat
  nx : Nat → Nat → Nat
  ot : Nat → Nat → Nat
section
variable (t : Tbl)
end
end Go.Proofs.YthgkkaifdlkciaaDoor

/- Trivial states: no program in sight. -/
namespace Go.Proofs.YthgkkaifdlkciaaDoor
set_option linter.unusedVariables false
set_option linter.unusedSimpArgs false

/-! The reference's rounds: it writes into the list that it reads. -/
end Go.Proofs.YthgkkaifdlkciaaDoor

/- Group words: normal words, images, sections, the search through the sections; no program in sight. -/
namespace Go.Proofs.YthgkkaifdlkciaaDoor
open Go.RowKit
set_option linter.unusedVariables false
set_option linter.unusedSimpArgs false

/-! the inverse machine -/
/-! normal words -/
/-! images and sections -/
section
variable {m : Mch} (hok : m.Ok) (hwf : m.Wf)
include hok hwf
/-! the inverse machine is a machine -/
end
/-! the search through the sections -/
end Go.Proofs.YthgkkaifdlkciaaDoor

/- A region in drawn order whose loads are read ahead of stores to the same cells: S is held until one of the operations L (the stores) has come up. -/
namespace Go.Proofs.YthgkkaifdlkciaaDoor
open Go.RowKit
set_option linter.unusedVariables false
set_option linter.unusedSimpArgs false
section
variable {P : Program} {ops : Array Oper} {Q : Exit → Act → World → Prop} {md : Region.Mode} {S : World → Prop} {L : List Nat}

def Upto (S : World → Prop) (L : List Nat) (listed : Array Bool) (w : World) : Prop := S w ∨ ∃ l ∈ L, listed.getD l true = true

def AnyS (P : Program) (md : Region.Mode) (ops : Array Oper) (Q : Exit → Act → World → Prop) (S : World → Prop) (L : List Nat) : Nat → Array Bool → Act → World → Prop
  | 0, listed, a, w => Region.ready md ops listed = [] ∧ Q .normal a w
  | n + 1, listed, a, w => (Region.ready md ops listed = [] → Q .normal a w) ∧
    ∀ i ∈ Region.ready md ops listed, wpOp P ops Q i (fun a' w' => Upto S L (listed.setIfInBounds i true) w' ∧ AnyS P md ops Q S L n (listed.setIfInBounds i true) a' w') a w

theorem AnyS.any : ∀ (n : Nat) (listed : Array Bool) (a : Act) (w : World), AnyS P md ops Q S L n listed a w → wpAny P md ops Q n listed a w
  | 0, _, _, _, h => h
  | n + 1, _, _, _, h => ⟨h.1, fun i hi => wpOp_mono (fun a' w' h' => AnyS.any n _ a' w' h'.2) (h.2 i hi)⟩

theorem Upto.less {listed : Array Bool} {w : World} {i : Nat} (hL : i ∉ L) (h : Upto S L (listed.setIfInBounds i true) w) : Upto S L listed w :=
  h.imp id fun ⟨l, hl, h⟩ => ⟨l, hl, by
    have hne : i ≠ l := fun e => hL (by rw [e]; exact hl)
    rwa [getD_set_ne true hne] at h⟩
theorem Upto.more {listed : Array Bool} {w : World} {i : Nat} (hL : i ∉ L) (h : Upto S L listed w) : Upto S L (listed.setIfInBounds i true) w :=
  h.imp id fun ⟨l, hl, h⟩ => ⟨l, hl, by
    have hne : i ≠ l := fun e => hL (by rw [e]; exact hl)
    rwa [getD_set_ne true hne]⟩

/-- Each of L waits for i. -/
def WaitFor (md : Region.Mode) (ops : Array Oper) (L : List Nat) (i : Nat) : Bool := L.all fun l => match ops[l]? with | some o => o.after.any fun e => Region.binds md e && e.on == i | none => true

theorem AnyS.first {S' : World → Prop} {i : Nat} {oi : Oper} {v : Value} (hi : ops[i]? = some oi) (hsel : ∀ (j : Nat) (o : Oper) cs b, ops[j]? = some o → o.op ≠ .select cs b)
    (hQ : ∀ c a w, Q (.panic c) (a.put oi.dst v) w → Q (.panic c) a w) (hL : i ∉ L) (hS' : (∀ w, S' w) ∨ (S' = S ∧ WaitFor md ops L i = true)) :
    ∀ (n : Nat) (listed : Array Bool) (a : Act) (w : World),
      (∀ j oj, ops[j]? = some oj → j ≠ i → listed.getD j true = false → (∀ e ∈ oj.after, Region.binds md e = true → e.on ≠ i) → oi.apart ops oj = true) →
      ((∀ w, S' w) ∨ ∀ l ∈ L, listed.getD l true = false) →
      i ∈ Region.ready md ops listed → YieldsIf P ops S' oi v a → Upto S L listed w →
      AnyS P md ops Q S L n (listed.setIfInBounds i true) (a.put oi.dst v) w → AnyS P md ops Q S L (n + 1) listed a w := by
  have now : ∀ (listed : Array Bool) w, ((∀ w, S' w) ∨ ∀ l ∈ L, listed.getD l true = false) → Upto S L listed w → S' w := fun listed w hd h => by
    rcases hd with hd | hd
    · exact hd w
    · rcases hS' with hS' | ⟨rfl, _⟩
      · exact hS' w
      · rcases h with h | ⟨l, hl, h⟩
        · exact h
        · rw [hd l hl] at h; cases h
  intro n
  induction n with
  | zero =>
    intro listed a w _ hd hr hy hS H
    refine ⟨fun h => (by rw [h] at hr; cases hr), fun j hj => ?_⟩
    by_cases hji : j = i
    · subst hji; exact hy.wpOp hi (now _ _ hd hS) ⟨hS.more hL, H⟩
    · have := ready_mono hj hji
      rw [H.1] at this
      cases this
  | succ n ih =>
    intro listed a w hfree hd hr hy hS H
    refine ⟨fun h => (by rw [h] at hr; cases hr), fun j hj => ?_⟩
    by_cases hji : j = i
    · subst hji; exact hy.wpOp hi (now _ _ hd hS) ⟨hS.more hL, H⟩
    · have h1 := H.2 j (ready_mono hj hji)
      obtain ⟨hjun, oj, hoj, hall⟩ := mem_ready.1 hj
      have h0 := (mem_ready.1 hr).1
      have hnot : ∀ e ∈ oj.after, Region.binds md e = true → e.on ≠ i := fun e he hb heq => by
        have h1 := hall e he hb
        rw [heq] at h1
        rcases Nat.lt_or_ge i listed.size with h' | h'
        · simp [h'] at h0 h1; rw [h0] at h1; cases h1
        · simp [Array.getElem?_eq_none h'] at h1
      have h2 := wpOp_putIf hoj (hfree j oj hoj hji hjun hnot) (fun cs b => hsel i oi cs b hi) (fun cs b => hsel j oj cs b hoj) hQ hy h1
      have hfree' : ∀ k ok, ops[k]? = some ok → k ≠ i → (listed.setIfInBounds j true).getD k true = false →
          (∀ e ∈ ok.after, Region.binds md e = true → e.on ≠ i) → oi.apart ops ok = true := fun k ok hk hki hun hno => by
        refine hfree k ok hk hki ?_ hno
        by_cases hjk : j = k
        · subst hjk; exact hjun
        · rw [getD_set_ne true hjk] at hun; exact hun
      have hd' : (∀ w, S' w) ∨ ∀ l ∈ L, (listed.setIfInBounds j true).getD l true = false := by
        rcases hd with hd | hd
        · exact .inl hd
        rcases hS' with hS' | ⟨_, hw⟩
        · exact .inl hS'
        refine .inr fun l hl => ?_
        by_cases e : j = l
        · exfalso
          subst e
          have := (List.all_eq_true.1 hw) j hl
          rw [hoj] at this
          obtain ⟨e, he, hb⟩ := Array.any_eq_true'.1 this
          simp only [Bool.and_eq_true, beq_iff_eq] at hb
          exact hnot e he hb.1 hb.2
        · rw [getD_set_ne true e]; exact hd l hl
      refine wpOp_mono (fun a' w' h3 => ?_) h2
      have hS2 : Upto S L (listed.setIfInBounds j true) w' := by
        have := h3.2.1
        rw [Array.setIfInBounds_comm _ _ (Ne.symm hji)] at this
        exact this.less hL
      refine ⟨hS2, ih (listed.setIfInBounds j true) a' w' hfree' hd' (ready_mono hr (Ne.symm hji)) h3.1 hS2 ?_⟩
      rw [Array.setIfInBounds_comm _ _ hji]
      exact h3.2.2

/-- what yields in every world is taken first -/
theorem AnyS.take {i : Nat} {oi : Oper} {v : Value} {n : Nat} {listed : Array Bool} {a : Act} {w : World} (hi : ops.toList[i]? = some oi)
    (hs : Region.noSelect ops = true) (hf : Region.free md ops listed i = true) (hr : (Region.ready md ops listed).contains i = true) (hL : L.contains i = false)
    (hQ : ∀ c a w, Q (.panic c) (a.put oi.dst v) w → Q (.panic c) a w) (hw : Region.wanted oi (yielded ops a.tmps) = true) (hy : ∀ w, (execOp a.eval oi).run P w = .ok (.value v) w) (hS : Upto S L listed w)
    (h : Upto S L (listed.setIfInBounds i true) w → AnyS P md ops Q S L n (listed.setIfInBounds i true) (a.put oi.dst v) w) : AnyS P md ops Q S L (n + 1) listed a w :=
  AnyS.first (S' := fun _ => True) (by rwa [Array.getElem?_toList] at hi) (Region.noSelect_spec hs) hQ (by simpa using hL) (.inl fun _ => trivial) n listed a w (Region.free_spec (by rwa [Array.getElem?_toList] at hi) hf) (.inl fun _ => trivial) (by simpa using hr) (.inl ⟨hw, fun w _ => hy w⟩) hS (h (hS.more (by simpa using hL)))
/-- what yields in every world that meets S is taken first, ahead of the stores -/
theorem AnyS.takeS {i : Nat} {oi : Oper} {v : Value} {n : Nat} {listed : Array Bool} {a : Act} {w : World} (hi : ops.toList[i]? = some oi)
    (hs : Region.noSelect ops = true) (hf : Region.free md ops listed i = true) (hr : (Region.ready md ops listed).contains i = true) (hL : L.contains i = false)
    (hW : WaitFor md ops L i = true) (hd : (L.all fun l => !listed.getD l true) = true)
    (hQ : ∀ c a w, Q (.panic c) (a.put oi.dst v) w → Q (.panic c) a w) (hw : Region.wanted oi (yielded ops a.tmps) = true) (hy : ∀ w, S w → (execOp a.eval oi).run P w = .ok (.value v) w) (hS : Upto S L listed w)
    (h : Upto S L (listed.setIfInBounds i true) w → AnyS P md ops Q S L n (listed.setIfInBounds i true) (a.put oi.dst v) w) : AnyS P md ops Q S L (n + 1) listed a w :=
  AnyS.first (S' := S) (by rwa [Array.getElem?_toList] at hi) (Region.noSelect_spec hs) hQ (by simpa using hL) (.inr ⟨rfl, hW⟩) n listed a w (Region.free_spec (by rwa [Array.getElem?_toList] at hi) hf) (.inr fun l hl => by simpa using (List.all_eq_true.1 hd) l hl) (by simpa using hr) (.inl ⟨hw, hy⟩) hS (h (hS.more (by simpa using hL)))

def AllS (P : Program) (md : Region.Mode) (ops : Array Oper) (Q : Exit → Act → World → Prop) (S : World → Prop) (L : List Nat) (n : Nat) (listed : Array Bool) (a : Act) (w : World) (rs : List Nat) : Prop :=
  ∀ i ∈ rs, wpOp P ops Q i (fun a' w' => Upto S L (listed.setIfInBounds i true) w' ∧ AnyS P md ops Q S L n (listed.setIfInBounds i true) a' w') a w
theorem AllS.nil {n : Nat} {listed : Array Bool} {a : Act} {w : World} : AllS P md ops Q S L n listed a w [] := fun _ h => by cases h
theorem AllS.cons {n : Nat} {listed : Array Bool} {a : Act} {w : World} {i : Nat} {o : Oper} {rs : List Nat} (ho : ops.toList[i]? = some o)
    (h : ∀ K' : Act → World → Prop, Shut (∀ a w, Upto S L (listed.setIfInBounds i true) w → (Upto S L (listed.setIfInBounds i true) w → AnyS P md ops Q S L n (listed.setIfInBounds i true) a w) → K' a w) → if Region.wanted o (yielded ops a.tmps) = true then Oper.wp P o a w K' Q else K' (a.put o.dst undef) w)
    (hs : AllS P md ops Q S L n listed a w rs) : AllS P md ops Q S L n listed a w (i :: rs) := fun j hj => by
  rcases List.mem_cons.1 hj with rfl | hj
  · exact wpOp_step (by rwa [Array.getElem?_toList] at ho) (fun K' hK => h K' (fun a w hS hW => hK a w ⟨hS, hW hS⟩))
  · exact hs j hj
theorem AnyS.branch {rs : List Nat} {n : Nat} {listed : Array Bool} {a : Act} {w : World} (hr : Region.ready md ops listed = rs) (hne : rs ≠ [])
    (h : AllS P md ops Q S L n listed a w rs) : AnyS P md ops Q S L (n + 1) listed a w := ⟨fun h0 => absurd (hr ▸ h0) hne, hr ▸ h⟩
theorem AnyS.done {listed : Array Bool} {a : Act} {w : World} (hr : Region.ready md ops listed = []) (h : Q .normal a w) : ∀ n, AnyS P md ops Q S L n listed a w
  | 0 => ⟨hr, h⟩
  | _ + 1 => ⟨fun _ => h, by rw [hr]; simp⟩
/-- the beginning -/
theorem region_S {id : Nat} {a : Act} {w : World} (S : World → Prop) (L : List Nat) (n : Nat) (hn : ops.size = n) (hm : P.follows .mixedOrders = true) (hS : S w.drew)
    (h : Upto S L (Array.replicate n false) w.drew → AnyS P .any ops Q S L n (Array.replicate n false) a w.drew) : (Code.region id ops true).wp P Q a w := by
  subst hn
  exact wp_region_any hm (AnyS.any _ _ _ _ (h (.inl hS)))
end
end Go.Proofs.YthgkkaifdlkciaaDoor

/- A function's own memory in one bundle: blocks known whole, and slices that grow. -/
namespace Go.Proofs.YthgkkaifdlkciaaDoor
open Go.RowKit
set_option linter.unusedVariables false
set_option linter.unusedSimpArgs false

/-- since w0, memory from block B on is the call's own: the blocks L are known whole, the slices G own their rows; all lie apart -/
structure Mm (B : Nat) (w0 w : World) (L : List (Nat × List Value × TypeId)) (G : List (Value × TypeId × List Value)) : Prop where
  below : Below B w0 w
  size : B ≤ w.heap.size
  blk : ∀ x ∈ L, B ≤ x.1 ∧ Blk w x.1 x.2.1 x.2.2
  dist : L.Pairwise fun x y => x.1 ≠ y.1
  own : ∀ x ∈ G, w.ownsRow B x.2.1 1 x.1 x.2.2.length x.2.2
  sep : ∀ x ∈ G, ∀ y ∈ L, x.1.ownBlock ≠ some y.1
  gdist : G.Pairwise fun x y => ∀ b, x.1.ownBlock = some b → y.1.ownBlock ≠ some b

theorem Mm.start (w : World) : Mm w.heap.size w w [] [] :=
  ⟨Below.refl _ _, Nat.le_refl _, fun _ h => (by cases h), List.Pairwise.nil, fun _ h => (by cases h), fun _ h => (by cases h), List.Pairwise.nil⟩

section
variable {B : Nat} {w0 w : World} {L : List (Nat × List Value × TypeId)} {G : List (Value × TypeId × List Value)}

theorem Mm.ownlt (h : Mm B w0 w L G) {x : Value × TypeId × List Value} (hx : x ∈ G) {g : Nat} (hg : x.1.ownBlock = some g) : g < w.heap.size := (World.ownsRow.lt (h.own x hx) g hg).2

/-- a call that leaves all that was there as it was -/
theorem Mm.call (h : Mm B w0 w L G) {w' : World} (hb : Below w.heap.size w w') : Mm B w0 w' L G := by
  refine ⟨h.below.trans (hb.mono h.size), Nat.le_trans h.size hb.size, fun x hx => ⟨(h.blk x hx).1, (h.blk x hx).2.keep hb⟩, h.dist, fun x hx => ?_, h.sep, h.gdist⟩
  have hg : w.grownBy w' none := ⟨hb.os, hb.tape, hb.output, hb.size, fun k hk _ => hb.block k hk⟩
  exact World.ownsRow.kept (h.own x hx) hg (by by_cases e : x.1.ownBlock = none <;> simp [e])
theorem Mm.drewN (h : Mm B w0 w L G) (n : Nat) : Mm B w0 (w.drewN n) L G := h.call ⟨rfl, rfl, rfl, Nat.le_refl _, fun _ _ => rfl⟩
theorem Mm.drew (h : Mm B w0 w L G) : Mm B w0 w.drew L G := h.drewN 1
theorem Mm.allocO (h : Mm B w0 w L G) (o : Obj) : Mm B w0 (w.alloc o) L G := h.call ((Below.refl _ _).alloc (Nat.le_refl _) _)
theorem Mm.alloc (h : Mm B w0 w L G) (cs : Array Value) (T : TypeId) : Mm B w0 (w.alloc (.cells cs T)) ((w.heap.size, cs.toList, T) :: L) G := by
  have h' := h.allocO (.cells cs T)
  refine ⟨h'.below, h'.size, fun x hx => ?_, List.pairwise_cons.2 ⟨fun y hy => ?_, h.dist⟩, h'.own, fun x hx y hy => ?_, h.gdist⟩
  · rcases List.mem_cons.1 hx with rfl | hx
    · exact ⟨h.size, Blk.new w cs T⟩
    · exact h'.blk x hx
  · have := (h.blk y hy).2.lt; simp only; omega
  · rcases List.mem_cons.1 hy with rfl | hy
    · intro e; have := h.ownlt hx e; omega
    · exact h.sep x hx y hy
/-- a slice header over no memory, or a row that is known whole, becomes one that grows -/
theorem Mm.addNil (h : Mm B w0 w L G) (E : TypeId) (c : Nat := 0) : Mm B w0 w L ((.slice none 0 0, E, []) :: G) := by
  refine ⟨h.below, h.size, h.blk, h.dist, fun x hx => ?_, fun x hx y hy => ?_, List.pairwise_cons.2 ⟨fun y hy b e => by simp [Value.ownBlock] at e, h.gdist⟩⟩
  · rcases List.mem_cons.1 hx with rfl | hx
    · exact World.ownsRow_nil _ _ _ _
    · exact h.own x hx
  · rcases List.mem_cons.1 hx with rfl | hx
    · simp [Value.ownBlock]
    · exact h.sep x hx y hy
theorem Mm.addOwn (h : Mm B w0 w L G) {b : Nat} {cs : List Value} {T : TypeId} (hb : (b, cs, T) ∈ L) (n : Nat) (hn : n = cs.length) (hm : n ≤ 2000000) : Mm B w0 w (L.filter fun x => x.1 != b) ((.slice (some ⟨b, 0, none⟩) n n, T, cs) :: G) := by
  subst hn
  have hB := h.blk _ hb
  refine ⟨h.below, h.size, fun x hx => h.blk x (List.mem_filter.1 hx).1, h.dist.sublist List.filter_sublist, fun x hx => ?_, fun x hx y hy => ?_, List.pairwise_cons.2 ⟨fun y hy c e => ?_, h.gdist⟩⟩
  · rcases List.mem_cons.1 hx with rfl | hx
    · refine ⟨by simp, .inr ⟨b, cs.length, cs.toArray, rfl, hB.1, hB.2, ?_⟩⟩
      simp [maxLen]; omega
    · exact h.own x hx
  · obtain ⟨hy1, hy2⟩ := List.mem_filter.1 hy
    rcases List.mem_cons.1 hx with rfl | hx
    · simp only [Value.ownBlock]; intro e; simp at e hy2; exact hy2 e.symm
    · exact h.sep x hx y hy1
  · simp only [Value.ownBlock, Option.some.injEq] at e
    subst e
    exact h.sep y hy _ hb

/-- a call that hands a slice of its own back -/
theorem Mm.callOwn (h : Mm B w0 w L G) {w' : World} (hb : Below w.heap.size w w') {v : Value} {E : TypeId} {n : Nat} {xs : List Value} (ho : w'.ownsRow w.heap.size E 1 v n xs) (hn : n = xs.length) : Mm B w0 w' L ((v, E, xs) :: G) := by
  subst hn
  have h' := h.call hb
  have hge : ∀ g, v.ownBlock = some g → w.heap.size ≤ g := fun g hg => (World.ownsRow.lt ho g hg).1
  have ho' : w'.ownsRow B E 1 v xs.length xs := by
    refine ⟨ho.1, ?_⟩
    rcases ho.2 with hn | ⟨g, cap, cur, hv, h1, rest⟩
    · exact .inl hn
    · exact .inr ⟨g, cap, cur, hv, Nat.le_trans h.size h1, rest⟩
  refine ⟨h'.below, h'.size, h'.blk, h'.dist, fun x hx => ?_, fun x hx y hy => ?_, List.pairwise_cons.2 ⟨fun y hy b e e' => ?_, h.gdist⟩⟩
  · rcases List.mem_cons.1 hx with rfl | hx
    · exact ho'
    · exact h'.own x hx
  · rcases List.mem_cons.1 hx with rfl | hx
    · intro e; have := hge _ e; have := (h.blk y hy).2.lt; omega
    · exact h.sep x hx y hy
  · have := hge _ e; have := h.ownlt hy e'; omega

theorem mem_of_get {α : Type} {l : List α} {i : Nat} {x : α} (h : l[i]? = some x) : x ∈ l := List.mem_of_getElem? h
theorem Mm.at (h : Mm B w0 w L G) (i : Nat) {x : Nat × List Value × TypeId} (hi : L[i]? = some x) : Blk w x.1 x.2.1 x.2.2 := (h.blk x (mem_of_get hi)).2
theorem pairwise_get {α : Type} {R : α → α → Prop} (hs : ∀ x y, R x y → R y x) {l : List α} (h : l.Pairwise R) {i j : Nat} {x y : α} (hi : l[i]? = some x) (hj : l[j]? = some y) (hne : i ≠ j) : R x y := by
  rw [List.pairwise_iff_getElem] at h
  obtain ⟨hi', rfl⟩ := List.getElem?_eq_some_iff.1 hi
  obtain ⟨hj', rfl⟩ := List.getElem?_eq_some_iff.1 hj
  rcases Nat.lt_or_ge i j with c | c
  · exact h i j hi' hj' c
  · exact hs _ _ (h j i hj' hi' (by omega))

theorem mem_set_of {α : Type} {l : List α} {i : Nat} {x y : α} (h : x ∈ l.set i y) : x = y ∨ ∃ j, j ≠ i ∧ l[j]? = some x := by
  obtain ⟨j, hj⟩ := List.mem_iff_getElem?.1 h
  by_cases e : j = i
  · subst e
    rw [List.getElem?_set] at hj
    simp only [if_true] at hj
    split at hj
    · exact .inl (Option.some.inj hj).symm
    · cases hj
  · rw [List.getElem?_set_ne (Ne.symm e)] at hj
    exact .inr ⟨j, e, hj⟩

/-- cells of the block number i are written -/
theorem Mm.setCells (h : Mm B w0 w L G) (i : Nat) {b : Nat} {cs : List Value} {T : TypeId} (hi : L[i]? = some (b, cs, T)) (o : Nat) (vs : List Value) : Mm B w0 (w.setCells b o vs) (L.set i (b, splice cs o vs, T)) G := by
  have hb := h.blk _ (mem_of_get hi)
  have hsym : ∀ x y : Nat × List Value × TypeId, x.1 ≠ y.1 → y.1 ≠ x.1 := fun _ _ h => Ne.symm h
  have hsz : (w.setCells b o vs).heap.size = w.heap.size := size_setCells b vs w o
  refine ⟨below_setCells hb.1 vs h.below o, by rw [hsz]; exact h.size, fun x hx => ?_, ?_, fun x hx => ?_, fun x hx y hy => ?_, h.gdist⟩
  · rcases mem_set_of hx with rfl | ⟨j, hj, hx⟩
    · exact ⟨hb.1, hb.2.setCells vs o⟩
    · have := h.blk x (mem_of_get hx)
      exact ⟨this.1, this.2.setsOther (pairwise_get hsym h.dist hx hi hj) vs o⟩
  · have e : (L.set i (b, splice cs o vs, T)).map (·.1) = L.map (·.1) := by
      rw [List.map_set]
      apply List.ext_getElem?
      intro k
      by_cases hk : k = i
      · subst hk
        have hlt : k < L.length := (List.getElem?_eq_some_iff.1 hi).1
        rw [List.getElem?_set_self (by simpa using hlt), List.getElem?_map, hi]; rfl
      · rw [List.getElem?_set_ne (Ne.symm hk)]
    have hd : (L.map (·.1)).Pairwise (· ≠ ·) := List.pairwise_map.2 h.dist
    rw [← e] at hd
    exact List.pairwise_map.1 hd
  · have ho := h.own x hx
    refine ⟨ho.1, ?_⟩
    rcases ho.2 with hn | ⟨g, cap, cur, hv, h1, h2, rest⟩
    · exact .inl hn
    · have hg : Blk w g cur.toList x.2.1 := by show _ = _; simpa using h2
      have hne : g ≠ b := fun e => h.sep x hx _ (mem_of_get hi) (by rw [hv, e]; rfl)
      have := hg.setsOther hne vs o
      exact .inr ⟨g, cap, cur, hv, h1, by simpa [Blk] using this, rest⟩
  · rcases mem_set_of hy with rfl | ⟨j, hj, hy⟩
    · exact h.sep x hx (b, cs, T) (mem_of_get hi)
    · exact h.sep x hx y (mem_of_get hy)
theorem Mm.setCell (h : Mm B w0 w L G) (i : Nat) {b : Nat} {cs : List Value} {T : TypeId} (hi : L[i]? = some (b, cs, T)) (o : Nat) (v : Value) : Mm B w0 (w.setCell ⟨b, o, none⟩ v) (L.set i (b, cs.set o v, T)) G := h.setCells i hi o [v]
theorem Mm.setAll (h : Mm B w0 w L G) (i : Nat) {b : Nat} {cs : List Value} {T : TypeId} (hi : L[i]? = some (b, cs, T)) {vs : List Value} (hl : vs.length = cs.length) : Mm B w0 (w.setCells b 0 vs) (L.set i (b, vs, T)) G := by
  have := h.setCells i hi 0 vs
  rwa [splice_all hl] at this

/-- an append to the slice number i, behind a new block with what is put in -/
theorem Mm.grow (h : Mm B w0 w L G) (i : Nat) {v : Value} {E : TypeId} {xs : List Value} (hi : G[i]? = some (v, E, xs)) (o : Obj) {news : List Value} {g cap m : Nat} {w' : World} (hm : m = news.length)
    (hown : w'.ownsRow B E 1 (.slice (some ⟨g, 0, none⟩) (xs.length + m) cap) (xs.length + m) (xs ++ news)) (hgrow : (w.alloc o).grownBy w' v.ownBlock) (hlies : v.ownBlock = some g ∨ g = (w.alloc o).heap.size) :
    Mm B w0 w' L (G.set i (.slice (some ⟨g, 0, none⟩) (xs.length + m) cap, E, xs ++ news)) := by
  have hv := mem_of_get hi
  have hs : (w.alloc o).heap.size = w.heap.size + 1 := by simp
  have hsz := hgrow.size
  have ha := h.allocO o
  have hblock : ∀ k, k < w.heap.size → v.ownBlock ≠ some k → w'.heap[k]? = w.heap[k]? := fun k hk hne =>
    (hgrow.block k (by omega) (Ne.symm hne)).trans (Below.heap_alloc w o k hk)
  have hnb : ∀ k, k < w.heap.size → v.ownBlock ≠ some k → (Value.slice (some ⟨g, 0, none⟩) (xs.length + m) cap).ownBlock ≠ some k := fun k hk hne e => by
    simp only [Value.ownBlock, Option.some.injEq] at e
    rcases hlies with h' | h'
    · rw [h', e] at hne; exact hne rfl
    · omega
  have hsym : ∀ x y : Value × TypeId × List Value, (∀ b, x.1.ownBlock = some b → y.1.ownBlock ≠ some b) → ∀ b, y.1.ownBlock = some b → x.1.ownBlock ≠ some b := fun x y h b e e' => h b e' e
  refine ⟨?_, by have := h.size; omega, fun x hx => ⟨(h.blk x hx).1, (hblock _ (h.blk x hx).2.lt (h.sep _ hv x hx)).trans (h.blk x hx).2⟩, h.dist, fun x hx => ?_, fun x hx y hy => ?_, ?_⟩
  · refine ⟨hgrow.os.trans ha.below.os, hgrow.tape.trans ha.below.tape, hgrow.output.trans ha.below.output, by have := h.below.size; omega, fun k hk => ?_⟩
    have hkw : k < w.heap.size := by have := h.size; omega
    exact (hblock k hkw (fun e => by have := (World.ownsRow.lt (h.own _ hv) k e).1; omega)).trans (h.below.block k hk)
  · rcases mem_set_of hx with rfl | ⟨j, hj, hx⟩
    · have : (xs ++ news).length = xs.length + m := by rw [List.length_append, hm]
      simp only [this]
      exact hown
    · have ho := h.own x (mem_of_get hx)
      refine ⟨ho.1, ?_⟩
      rcases ho.2 with hn | ⟨g', cap', cur, hv', h1, h2, rest⟩
      · exact .inl hn
      · have hlt := h.ownlt (mem_of_get hx) (by rw [hv']; rfl : x.1.ownBlock = some g')
        exact .inr ⟨g', cap', cur, hv', h1, (hblock g' hlt (pairwise_get hsym h.gdist hx hi hj g' (by rw [hv']; rfl))).trans h2, rest⟩
  · rcases mem_set_of hx with rfl | ⟨j, hj, hx⟩
    · exact hnb _ (h.blk y hy).2.lt (h.sep _ hv y hy)
    · exact h.sep x (mem_of_get hx) y hy
  · rw [List.pairwise_iff_getElem]
    intro a b ha' hb' hab c e
    simp only [List.getElem_set] at e ⊢
    simp only [List.length_set] at ha' hb'
    by_cases e1 : i = a
    · subst e1
      simp only [if_true] at e
      rw [if_neg (by omega)]
      intro e2
      have hlt := h.ownlt (List.getElem_mem hb') e2
      exact hnb c hlt (pairwise_get hsym h.gdist (List.getElem?_eq_getElem hb') hi (by omega) c e2) e
    · rw [if_neg e1] at e
      by_cases e2 : i = b
      · subst e2
        simp only [if_true]
        have hlt := h.ownlt (List.getElem_mem ha') e
        exact hnb c hlt (pairwise_get hsym h.gdist (List.getElem?_eq_getElem ha') hi (by omega) c e)
      · rw [if_neg e2]
        exact (List.pairwise_iff_getElem.1 h.gdist) a b ha' hb' hab c e

theorem Mm.mach (h : Mm B w0 w L G) (i : Nat) {b : Nat} {m : Mch} {T : TypeId} (hi : L[i]? = some (b, m.cells, T)) : MAt w b 0 m := (h.at i hi).all

/-- 'out = append(out, u)', u of one cell, to the slice number i -/
theorem Mm.appendAt {P : Program} {ops : Array Oper} {rest : List Oper} {o : Oper} {a : Act} {Q : Exit → Act → World → Prop} (hgd : o.guard = none) (s x : Operand) (t : TypeId)
    (ho : o.op = .call { callee := .builtin .append, args := #[s, x], argTypes := #[t, t] })
    (h : Mm B w0 w L G) (i : Nat) {v : Value} {E : TypeId} {xs : List Value} (hi : G[i]? = some (v, E, xs)) {i0 : TypeInfo} {z : Value} {bytes : Nat} (ht : P.underlying t = some (.slice E)) (hI : P.info? E = some i0) (hz : i0.zero = some z)
    (hsize : i0.size = 1) (hby : i0.bytes = bytes) (hzs : z.cells.size = 1) {u : Value} (hs : a.eval s = v) (b : Nat) (hb : w.heap.size = b) (hx : a.eval x = .slice (some ⟨b, 0, none⟩) 1 1) (hu : u.oneCell' = true)
    (hlen : xs.length ≤ 1000000) (hbytes : bytes ≤ 1000)
    (hk : ∀ g cap w', Mm B w0 w' L (G.set i (.slice (some ⟨g, 0, none⟩) (xs.length + 1) cap, E, xs ++ [u])) → wpList P ops Q rest (a.put o.dst (.slice (some ⟨g, 0, none⟩) (xs.length + 1) cap)) w') :
    wpList P ops Q (o :: rest) a (w.alloc (.cells #[u] E)) := by
  subst hb
  refine wpList_append_lies _ hgd s x t ho B E i0 z 1 bytes ht hI hz hsize hby hzs (by decide) v xs.length xs hs (World.ownsRow.alloc (h.own _ (mem_of_get hi)) _) ⟨w.heap.size, 0, none⟩ 1 1 [u] hx rfl ?_ ?_ (by omega) ?_ ?_ ?_ _ rfl ?_
  · intro j y hj
    have hb := Blk.new w #[u] E
    have hadd : (⟨w.heap.size, 0, none⟩ : Addr).add j = ⟨w.heap.size, j, none⟩ := by unfold Addr.add; split <;> simp_all
    rw [hadd]
    exact hb.cell' hj
  · intro y hy
    rw [List.mem_singleton] at hy
    rw [hy]; exact hu
  · simp [maxLen]; omega
  · calc (xs.length + 1) * bytes ≤ 1000001 * 1000 := Nat.mul_le_mul (by omega) hbytes
      _ ≤ _ := by omega
  · have := h.size; simp; omega
  · intro g cap w' hown hgrow hlies hlt
    exact hk g cap w' (h.grow i hi _ rfl hown hgrow hlies)

theorem Mm.append {P : Program} {ops : Array Oper} {rest : List Oper} {o : Oper} {a : Act} {Q : Exit → Act → World → Prop} (hgd : o.guard = none) (s x : Operand) (t : TypeId)
    (ho : o.op = .call { callee := .builtin .append, args := #[s, x], argTypes := #[t, t] })
    (h : Mm B w0 w L G) (i : Nat) {v : Value} {E : TypeId} {xs : List Value} (hi : G[i]? = some (v, E, xs)) {i0 : TypeInfo} {z : Value} {bytes : Nat} (ht : P.underlying t = some (.slice E)) (hI : P.info? E = some i0) (hz : i0.zero = some z)
    (hsize : i0.size = 1) (hby : i0.bytes = bytes) (hzs : z.cells.size = 1) {u : Value} (hs : a.eval s = v) (hx : a.eval x = .slice (some ⟨w.heap.size, 0, none⟩) 1 1) (hu : u.oneCell' = true)
    (hlen : xs.length ≤ 1000000) (hbytes : bytes ≤ 1000)
    (hk : ∀ g cap w', Mm B w0 w' L (G.set i (.slice (some ⟨g, 0, none⟩) (xs.length + 1) cap, E, xs ++ [u])) → wpList P ops Q rest (a.put o.dst (.slice (some ⟨g, 0, none⟩) (xs.length + 1) cap)) w') :
    wpList P ops Q (o :: rest) a (w.alloc (.cells #[u] E)) := Mm.appendAt hgd s x t ho h i hi ht hI hz hsize hby hzs hs _ rfl hx hu hlen hbytes hk

end
section
variable {B : Nat} {w0 w : World} {L : List (Nat × List Value × TypeId)} {G : List (Value × TypeId × List Value)}
theorem Mm.subG (h : Mm B w0 w L G) {G' : List (Value × TypeId × List Value)} (hs : G'.Sublist G) : Mm B w0 w L G' :=
  ⟨h.below, h.size, h.blk, h.dist, fun x hx => h.own x (hs.subset hx), fun x hx y hy => h.sep x (hs.subset hx) y hy, h.gdist.sublist hs⟩
end
end Go.Proofs.YthgkkaifdlkciaaDoor
