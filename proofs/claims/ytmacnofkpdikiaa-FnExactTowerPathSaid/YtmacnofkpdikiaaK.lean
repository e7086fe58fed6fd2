/- A block known whole. -/
import Derived.Test.YtmacnofkpdikiaaB
import Derived.LoopN
namespace Go.Proofs.Ytmacnofkpdikiaa
open Go.RowKit
set_option linter.unusedVariables false
set_option linter.unusedSimpArgs false

/-- block b holds the cells cs, of the type T, none of them frozen -/
def Blk (w : World) (b : Nat) (cs : List Value) (T : TypeId) : Prop := w.heap[b]? = some (.cells cs.toArray T (0, 0))

theorem Blk.cell {w : World} {b T : Nat} {cs : List Value} (h : Blk w b cs T) (i : Nat) : w.cell? ⟨b, i, none⟩ = cs[i]? := by
  rw [cell_of_row w b i _ T _ h]; simp
theorem Blk.cell' {w : World} {b T : Nat} {cs : List Value} (h : Blk w b cs T) {i : Nat} {v : Value} (hv : cs[i]? = some v) : w.cell? ⟨b, i, none⟩ = some v := by rw [h.cell, hv]
theorem Blk.free {w : World} {b T : Nat} {cs : List Value} (h : Blk w b cs T) (i : Nat) : w.frozen? ⟨b, i, none⟩ = false := frozen_of_row w b i _ T h
theorem Blk.lt {w : World} {b T : Nat} {cs : List Value} (h : Blk w b cs T) : b < w.heap.size := (Array.getElem?_eq_some_iff.1 h).1
theorem Blk.below {w w' : World} {b T : Nat} {cs : List Value} (h : Blk w b cs T) {B : Nat} (hb : Below B w w') (hlt : b < B) : Blk w' b cs T := (hb.block b hlt).trans h
theorem Blk.keep {w w' : World} {b T : Nat} {cs : List Value} (h : Blk w b cs T) (hb : Below w.heap.size w w') : Blk w' b cs T := h.below hb h.lt
theorem Blk.drewN {w : World} {b T : Nat} {cs : List Value} (h : Blk w b cs T) (n : Nat) : Blk (w.drewN n) b cs T := h
theorem Blk.drew {w : World} {b T : Nat} {cs : List Value} (h : Blk w b cs T) : Blk w.drew b cs T := h
theorem Blk.alloc {w : World} {b T : Nat} {cs : List Value} (h : Blk w b cs T) (o : Obj) : Blk (w.alloc o) b cs T := (Below.heap_alloc w o b h.lt).trans h
theorem Blk.new (w : World) (cs : Array Value) (T : TypeId) : Blk (w.alloc (.cells cs T)) w.heap.size cs.toList T := by
  show _ = _; rw [heap_alloc_new]
theorem Blk.setCell {w : World} {b T : Nat} {cs : List Value} (h : Blk w b cs T) (i : Nat) (v : Value) : Blk (w.setCell ⟨b, i, none⟩ v) b (cs.set i v) T := by
  show _ = _
  rw [heap_setCell_same w b i _ T v h]
  simp
theorem Blk.setOther {w : World} {b T : Nat} {cs : List Value} (h : Blk w b cs T) {a : Addr} (ha : b ≠ a.block) (v : Value) : Blk (w.setCell a v) b cs T :=
  (heap_setCell_other w a b v ha).trans h
theorem Blk.range {w : World} {b T : Nat} {cs : List Value} (h : Blk w b cs T) (o : Nat) (vs : List Value) (hv : ∀ j v, vs[j]? = some v → cs[o + j]? = some v) : w.rangeAt b o vs :=
  fun j v hj => h.cell' (hv j v hj)
theorem Blk.there {w : World} {b T : Nat} {cs : List Value} (h : Blk w b cs T) (o n : Nat) (hn : o + n ≤ cs.length) : w.there b o n := fun j hj =>
  ⟨by rw [h.cell, List.getElem?_eq_getElem (by omega)]; rfl, h.free _⟩

/-- cs with vs laid over it from o on -/
def splice (cs : List Value) : Nat → List Value → List Value
  | _, [] => cs
  | o, v :: r => splice (cs.set o v) (o + 1) r
theorem Blk.setCells {b T : Nat} : ∀ (vs : List Value) {w : World} {cs : List Value} (h : Blk w b cs T) (o : Nat), Blk (w.setCells b o vs) b (splice cs o vs) T
  | [], _, _, h, _ => h
  | v :: r, _, _, h, o => Blk.setCells r (h.setCell o v) (o + 1)
theorem Blk.setsOther {b T : Nat} {cs : List Value} {c : Nat} (hb : b ≠ c) : ∀ (vs : List Value) {w : World} (h : Blk w b cs T) (o : Nat), Blk (w.setCells c o vs) b cs T
  | [], _, h, _ => h
  | v :: r, _, h, o => Blk.setsOther hb r (h.setOther hb v) (o + 1)
theorem splice_length : ∀ (vs : List Value) (cs : List Value) (o : Nat), (splice cs o vs).length = cs.length
  | [], _, _ => rfl
  | v :: r, cs, o => by rw [splice, splice_length r]; simp
theorem splice_get : ∀ (vs : List Value) (cs : List Value) (o i : Nat), (splice cs o vs)[i]? = if o ≤ i ∧ i < o + vs.length ∧ i < cs.length then vs[i - o]? else cs[i]?
  | [], cs, o, i => by simp [splice]; omega
  | v :: r, cs, o, i => by
    rw [splice, splice_get r]
    simp only [List.length_set, List.length_cons]
    by_cases h1 : o + 1 ≤ i ∧ i < o + 1 + r.length ∧ i < cs.length
    · rw [if_pos h1, if_pos (by omega), show i - o = (i - (o + 1)) + 1 by omega, List.getElem?_cons_succ]
    · rw [if_neg h1]
      by_cases h2 : i = o
      · subst h2
        by_cases h3 : i < cs.length
        · rw [if_pos (by omega), List.getElem?_set_self h3]; simp
        · rw [if_neg (by omega), List.getElem?_eq_none (by simpa using h3), List.getElem?_eq_none (by omega)]
      · rw [List.getElem?_set_ne (by omega), if_neg (by omega)]
theorem below_setCells {B b : Nat} (hB : B ≤ b) : ∀ (vs : List Value) {a w : World} (h : Below B a w) (o : Nat), Below B a (w.setCells b o vs)
  | [], _, _, h, _ => h
  | v :: r, _, _, h, o => below_setCells hB r (h.setCell (p := ⟨b, o, none⟩) hB v) (o + 1)
theorem size_setCells (b : Nat) : ∀ (vs : List Value) (w : World) (o : Nat), (w.setCells b o vs).heap.size = w.heap.size
  | [], _, _ => rfl
  | v :: r, w, o => by rw [World.setCells, size_setCells b r]; simp [World.setCell]

/-- the whole machine out of where it lies -/
theorem ld_mach {ops : Array Oper} {rest : List Oper} {o : Oper} {a : Act} {w : World} {Q : Exit → Act → World → Prop} (hwd : Region.wanted o (yielded ops a.tmps) = true) (x : Operand) (ho : o.op = .load 44 x)
    (b off : Nat) (hx : a.eval x = .pointer (some ⟨b, off, none⟩)) (m : Mch) (hm : MAt w b off m) (hw : m.Wf)
    (h : wpList Try.prog ops Q rest (a.put o.dst (.agg m.cells.toArray)) w) : wpList Try.prog ops Q (o :: rest) a w :=
  BigFrame.wpList_want hwd fun K hK => wp_load_mid 44 x ho b off hx m.cells (.struct _) hm Try.underlying44 rfl (by rw [Mch.cells_length hw]; kernel_rfl) (hK _ _ h)

/-- a whole array or struct out of where it lies; into it -/
theorem ld_row {P : Program} {ops : Array Oper} {rest : List Oper} {o : Oper} {a : Act} {w : World} {Q : Exit → Act → World → Prop} (hwd : Region.wanted o (yielded ops a.tmps) = true) (T : TypeId) (x : Operand) (ho : o.op = .load T x)
    (b off : Nat) (hx : a.eval x = .pointer (some ⟨b, off, none⟩)) (cs : List Value) (d : TypeDesc) (hr : w.rangeAt b off cs) (hu : P.underlying T = some d) (hd : d.isRow = true) (hi : (P.info? T).map (·.size) = some cs.length)
    (h : wpList P ops Q rest (a.put o.dst (.agg cs.toArray)) w) : wpList P ops Q (o :: rest) a w :=
  BigFrame.wpList_want hwd fun K hK => wp_load_mid T x ho b off hx cs d hr hu hd hi (hK _ _ h)
theorem st_row {P : Program} {ops : Array Oper} {rest : List Oper} {o : Oper} {a : Act} {w : World} {Q : Exit → Act → World → Prop} (hwd : Region.wanted o (yielded ops a.tmps) = true) (T : TypeId) (x y : Operand) (ho : o.op = .store T x y)
    (b off : Nat) (cs : List Value) (hx : a.eval x = .pointer (some ⟨b, off, none⟩)) (hy : a.eval y = .agg cs.toArray) (ht : w.there b off cs.length) (hi : (P.info? T).map (·.size) = some cs.length) (h1 : ∀ v ∈ cs, v.oneCell' = true)
    (h : wpList P ops Q rest (a.put o.dst undef) (w.setCells b off cs)) : wpList P ops Q (o :: rest) a w :=
  BigFrame.wpList_want hwd fun K hK => wp_store_mid T x y ho b off cs.toArray hx hy (by rw [List.size_toArray]; exact ht) (by rw [List.size_toArray]; exact hi) (all_oneCell_toArray h1) (hK _ _ h)
theorem splice_all {cs vs : List Value} (h : vs.length = cs.length) : splice cs 0 vs = vs := by
  apply List.ext_getElem?
  intro i
  rw [splice_get]
  by_cases hi : i < cs.length
  · rw [if_pos ⟨by omega, by omega, hi⟩]; simp
  · rw [if_neg (by omega), List.getElem?_eq_none (by omega), List.getElem?_eq_none (by omega)]
theorem Blk.all {w : World} {b T : Nat} {cs : List Value} (h : Blk w b cs T) : w.rangeAt b 0 cs := h.range 0 cs (fun j v hj => by simpa using hj)
theorem Blk.setAll {w : World} {b T : Nat} {cs vs : List Value} (h : Blk w b cs T) (hl : vs.length = cs.length) : Blk (w.setCells b 0 vs) b vs T := by
  have := h.setCells vs 0
  rwa [splice_all hl] at this

def u8s (xs : List Int) : List Value := xs.map (Value.int .u8)
theorem u8s_get {xs : List Int} {i : Nat} (h : i < xs.length) : (u8s xs)[i]? = some (.int .u8 (xs[i]?.getD 0)) := by
  simp [u8s, List.getElem?_eq_getElem h]

end Go.Proofs.Ytmacnofkpdikiaa
