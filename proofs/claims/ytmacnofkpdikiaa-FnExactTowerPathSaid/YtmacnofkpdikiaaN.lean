/- What a machine is, and what its states make of words: no program in sight. -/
import Derived.Test.YtmacnofkpdikiaaK
import Derived.Test.YtmacnofkpdikiaaF
import Derived.Laws.BytesArg
namespace Go.Proofs.Ytmacnofkpdikiaa
open Go.RowKit
set_option linter.unusedVariables false
set_option linter.unusedSimpArgs false

/-- m is a machine -/
structure Mch.Ok (m : Mch) : Prop where
  l2 : 2 ≤ m.L
  l3 : m.L ≤ 3
  s1 : 1 ≤ m.S
  s16 : m.S ≤ 16
  nx : ∀ q x : Nat, (q : Int) < m.S → (x : Int) < m.L → m.n q x < m.S
  ot : ∀ q x : Nat, (q : Int) < m.S → (x : Int) < m.L → m.o q x < m.L
  inj : ∀ q x y : Nat, (q : Int) < m.S → (x : Int) < m.L → (y : Int) < m.L → m.o q x = m.o q y → x = y

theorem entry_act' {m : Mch} {q k : Nat} (h : (q : Int) < m.S ∧ (k : Int) < m.L) :
    entryP m q k = (decide (m.n q k < m.S) && decide (m.o q k < m.L) && (List.range k).all fun y => m.o q y != m.o q k) := by
  have : (decide (m.S ≤ (q : Int)) || decide (m.L ≤ (k : Int))) = false := by
    rw [Bool.or_eq_false_iff, decide_eq_false_iff_not, decide_eq_false_iff_not]; omega
  simp only [entryP, this]
  simp

theorem mach_ok {m : Mch} (h : machP m = true) : m.Ok := by
  simp only [machP, inR, Bool.and_eq_true, decide_eq_true_eq, List.all_eq_true, List.mem_range] at h
  obtain ⟨⟨⟨a1, a2⟩, a3, a4⟩, h⟩ := h
  have he : ∀ q x : Nat, (q : Int) < m.S → (x : Int) < m.L → m.n q x < m.S ∧ m.o q x < m.L ∧ ∀ y, y < x → m.o q y ≠ m.o q x := fun q x hq hx => by
    have := h q (by omega)
    simp only [rowP, List.all_eq_true, List.mem_range] at this
    have := this x (by omega)
    rw [entry_act' ⟨hq, hx⟩] at this
    simp only [Bool.and_eq_true, decide_eq_true_eq, List.all_eq_true, List.mem_range, bne_iff_ne] at this
    exact ⟨this.1.1, this.1.2, this.2⟩
  refine ⟨a1, a2, a3, a4, fun q x hq hx => (he q x hq hx).1, fun q x hq hx => (he q x hq hx).2.1, fun q x y hq hx hy e => ?_⟩
  rcases Nat.lt_trichotomy x y with c | c | c
  · exact absurd e ((he q y hq hy).2.2 x c)
  · exact c
  · exact absurd e.symm ((he q x hq hx).2.2 y c)

/-- the number of states, of letters -/
def Mch.s (m : Mch) : Nat := m.S.toNat
def Mch.l (m : Mch) : Nat := m.L.toNat
/-- where a state goes on to, and what it puts out -/
def Mch.nn (m : Mch) (q x : Nat) : Nat := (m.n q x).toNat
def Mch.on (m : Mch) (q x : Nat) : Nat := (m.o q x).toNat

theorem Mch.Ok.S_eq {m : Mch} (h : m.Ok) : m.S = (m.s : Int) := by have := h.s1; simp only [Mch.s]; omega
theorem Mch.Ok.L_eq {m : Mch} (h : m.Ok) : m.L = (m.l : Int) := by have := h.l2; simp only [Mch.l]; omega
theorem Mch.Ok.s_le {m : Mch} (h : m.Ok) : m.s ≤ 16 := by have := h.s16; have := h.S_eq; omega
theorem Mch.Ok.s_pos {m : Mch} (h : m.Ok) : 1 ≤ m.s := by have := h.s1; have := h.S_eq; omega
theorem Mch.Ok.l_le {m : Mch} (h : m.Ok) : m.l ≤ 3 := by have := h.l3; have := h.L_eq; omega
theorem Mch.Ok.l_ge {m : Mch} (h : m.Ok) : 2 ≤ m.l := by have := h.l2; have := h.L_eq; omega
theorem Mch.Ok.n_eq {m : Mch} (h : m.Ok) (hw : m.Wf) {q x : Nat} (hq : q < m.s) (hx : x < m.l) : m.n q x = (m.nn q x : Int) := by
  have := (hw.nb (q * 3 + x)).1; simp only [Mch.nn, Mch.n]; omega
theorem Mch.Ok.o_eq {m : Mch} (h : m.Ok) (hw : m.Wf) {q x : Nat} (hq : q < m.s) (hx : x < m.l) : m.o q x = (m.on q x : Int) := by
  have := (hw.ob (q * 3 + x)).1; simp only [Mch.on, Mch.o]; omega
theorem Mch.Ok.nn_lt {m : Mch} (h : m.Ok) (hw : m.Wf) {q x : Nat} (hq : q < m.s) (hx : x < m.l) : m.nn q x < m.s := by
  have := h.nx q x (by rw [h.S_eq]; omega) (by rw [h.L_eq]; omega)
  rw [h.n_eq hw hq hx, h.S_eq] at this; omega
theorem Mch.Ok.on_lt {m : Mch} (h : m.Ok) (hw : m.Wf) {q x : Nat} (hq : q < m.s) (hx : x < m.l) : m.on q x < m.l := by
  have := h.ot q x (by rw [h.S_eq]; omega) (by rw [h.L_eq]; omega)
  rw [h.o_eq hw hq hx, h.L_eq] at this; omega
theorem Mch.Ok.on_inj {m : Mch} (h : m.Ok) (hw : m.Wf) {q x y : Nat} (hq : q < m.s) (hx : x < m.l) (hy : y < m.l) (e : m.on q x = m.on q y) : x = y :=
  h.inj q x y (by rw [h.S_eq]; omega) (by rw [h.L_eq]; omega) (by rw [h.L_eq]; omega) (by rw [h.o_eq hw hq hx, h.o_eq hw hq hy, e])

/-- what a state leads letters to, and its section there -/
def runL (m : Mch) : Nat → List Nat → List Nat × Nat
  | q, [] => ([], q)
  | q, x :: t => (m.on q x :: (runL m (m.nn q x) t).1, (runL m (m.nn q x) t).2)
theorem runL_append (m : Mch) : ∀ (l r : List Nat) (q : Nat), runL m q (l ++ r) = ((runL m q l).1 ++ (runL m (runL m q l).2 r).1, (runL m (runL m q l).2 r).2)
  | [], r, q => rfl
  | x :: t, r, q => by simp only [List.cons_append, runL, runL_append m t r]
theorem runL_snoc (m : Mch) (l : List Nat) (x q : Nat) : runL m q (l ++ [x]) = ((runL m q l).1 ++ [m.on (runL m q l).2 x], m.nn (runL m q l).2 x) := by
  rw [runL_append]; rfl
theorem runL_length (m : Mch) : ∀ (l : List Nat) (q : Nat), (runL m q l).1.length = l.length
  | [], _ => rfl
  | x :: t, q => by simp only [runL, List.length_cons, runL_length m t]
theorem runL_state {m : Mch} (h : m.Ok) (hw : m.Wf) : ∀ (l : List Nat) (q : Nat), q < m.s → (∀ x ∈ l, x < m.l) → (runL m q l).2 < m.s
  | [], q, hq, _ => hq
  | x :: t, q, hq, hl => runL_state h hw t _ (h.nn_lt hw hq (hl x (List.mem_cons_self ..))) fun y hy => hl y (List.mem_cons_of_mem _ hy)
theorem runL_letters {m : Mch} (h : m.Ok) (hw : m.Wf) : ∀ (l : List Nat) (q : Nat), q < m.s → (∀ x ∈ l, x < m.l) → ∀ y ∈ (runL m q l).1, y < m.l
  | [], q, hq, _, y, hy => by simp [runL] at hy
  | x :: t, q, hq, hl, y, hy => by
    simp only [runL, List.mem_cons] at hy
    rcases hy with rfl | hy
    · exact h.on_lt hw hq (hl x (List.mem_cons_self ..))
    · exact runL_letters h hw t _ (h.nn_lt hw hq (hl x (List.mem_cons_self ..))) (fun y hy => hl y (List.mem_cons_of_mem _ hy)) y hy

/-- the letters of a text -/
def lts (s : ByteArray) : List Nat := s.data.toList.map fun b => b.toNat - 48
theorem lts_length (s : ByteArray) : (lts s).length = s.size := by simp [lts]
theorem lts_get {s : ByteArray} {k : Nat} (hk : k < s.size) : (lts s)[k]? = some ((s[k]).toNat - 48) := by
  have h' : k < s.data.toList.length := by simpa using hk
  simp only [lts, List.getElem?_map, List.getElem?_eq_getElem h', Option.map_some]
  rfl
theorem lets_at {d : Int} {s : ByteArray} (h : letsP d s = true) {k : Nat} (hk : k < s.size) : 48 ≤ (s[k]).toNat ∧ ((s[k]).toNat : Int) - 48 < d := by
  simp only [letsP, letsUpto, List.all_eq_true, List.mem_range] at h
  have := h k hk
  rw [getElem!_pos s k hk] at this
  simp only [letB, Bool.and_eq_true, decide_eq_true_eq] at this
  exact ⟨by omega, this.2⟩
theorem lts_lt {m : Mch} (hm : m.Ok) {s : ByteArray} (h : letsP m.L s = true) : ∀ x ∈ lts s, x < m.l := fun x hx => by
  obtain ⟨k, hk⟩ := List.mem_iff_getElem?.1 hx
  have hlt : k < s.size := by have := (List.getElem?_eq_some_iff.1 hk).1; rwa [lts_length] at this
  rw [lts_get hlt] at hk
  have := lets_at h hlt
  have := hm.L_eq
  have := Option.some.inj hk
  omega
theorem lts_take_succ {s : ByteArray} {k : Nat} (hk : k < s.size) : (lts s).take (k + 1) = (lts s).take k ++ [(s[k]).toNat - 48] := by
  have h' : k < (lts s).length := by rw [lts_length]; exact hk
  rw [List.take_succ_eq_append_getElem h']
  congr 2
  have := lts_get hk
  rw [List.getElem?_eq_getElem h'] at this
  exact Option.some.inj this

/-- letters as a text -/
def txt (l : List Nat) : ByteArray := strOfNums (l.map fun x : Nat => ((48 + x : Nat) : Int))

end Go.Proofs.Ytmacnofkpdikiaa
