/- The program's rounds for trivial states: no program in sight. -/
import Derived.Test.YtmacnofkpdikiaaT
namespace Go.Proofs.Ytmacnofkpdikiaa
set_option linter.unusedVariables false
set_option linter.unusedSimpArgs false

/-- the rounds: what is trivial stays; what stays keeps its letters; if nothing has turned in this round so far ('again' is false), what stays among the first j goes on to what stays -/
structure PInv (m : Mch) (tv : Nat → Bool) (again : Bool) (j : Nat) : Prop where
  keep : ∀ q, q < m.s → Triv m q → tv q = true
  outs : ∀ q, q < m.s → tv q = true → ∀ x, x < m.l → m.on q x = x
  none : ∀ q, m.s ≤ q → tv q = false
  still : again = false → ∀ q, q < j → q < m.s → tv q = true → ∀ x, x < m.l → tv (m.nn q x) = true

/-- the first pass: k states done -/
def fstP (m : Mch) (k : Nat) : Nat → Bool := fun q => decide (q < k) && decide (q < m.s) && (List.range m.l).all fun x => m.on q x == x
/-- the first pass: x letters of state k done -/
def fstX (m : Mch) (k x : Nat) : Nat → Bool := upd (fstP m k) k ((List.range x).all fun y => m.on k y == y)
theorem fstX_zero (m : Mch) (k : Nat) : upd (fstP m k) k true = fstX m k 0 := by simp [fstX]
theorem fstX_succ (m : Mch) (k x : Nat) : upd (fstX m k x) k (fstX m k x k && (m.on k x == x)) = fstX m k (x + 1) := by
  funext q
  simp only [fstX, upd, List.range_succ, List.all_append]
  split <;> simp
theorem fstX_fin (m : Mch) {k : Nat} (hk : k < m.s) : fstX m k m.l = fstP m (k + 1) := by
  funext q
  simp only [fstX, upd, fstP]
  by_cases h : q = k
  · subst h; simp [hk]
  · rw [if_neg h]
    congr 2
    simp only [decide_eq_decide]; omega
theorem PInv.start (m : Mch) : PInv m (fstP m m.s) true 0 := by
  refine ⟨fun q hq ht => ?_, fun q hq ht x hx => ?_, fun q hq => ?_, fun h => by cases h⟩
  · simp only [fstP, hq, decide_true, Bool.true_and, List.all_eq_true, List.mem_range, beq_iff_eq]
    exact fun x hx => ht.out hx
  · simp only [fstP, hq, decide_true, Bool.true_and, List.all_eq_true, List.mem_range, beq_iff_eq] at ht
    exact ht x hx
  · simp only [fstP]; simp; omega
theorem PInv.begin {m : Mch} {tv : Nat → Bool} {a : Bool} {j : Nat} (h : PInv m tv a j) : PInv m tv false 0 := ⟨h.keep, h.outs, h.none, fun _ q hq => by omega⟩
/-- a state that goes on to one that is not trivial is taken out -/
theorem PInv.out {m : Mch} (hok : m.Ok) (hwf : m.Wf) {tv : Nat → Bool} {a : Bool} {j : Nat} (h : PInv m tv a j) (hj : j < m.s) {x : Nat} (hx : x < m.l) (hn : tv (m.nn j x) = false) : PInv m (upd tv j false) true (j + 1) := by
  refine ⟨fun q hq ht => ?_, fun q hq ht => ?_, fun q hq => ?_, fun e => by cases e⟩
  · simp only [upd]
    split
    · rename_i e; subst e
      have := h.keep _ (hok.nn_lt hwf hq hx) (ht.next hx)
      rw [hn] at this; cases this
    · exact h.keep q hq ht
  · simp only [upd] at ht
    split at ht
    · cases ht
    · exact h.outs q hq ht
  · simp only [upd]; split; rfl; exact h.none q hq
theorem PInv.pass {m : Mch} {tv : Nat → Bool} {a : Bool} {j : Nat} (h : PInv m tv a j) (hn : tv j = true → ∀ x, x < m.l → tv (m.nn j x) = true) : PInv m tv a (j + 1) :=
  ⟨h.keep, h.outs, h.none, fun e q hq hs ht => by
    by_cases hqj : q = j
    · subst hqj; exact hn ht
    · exact h.still e q (by omega) hs ht⟩
theorem PInv.fin {m : Mch} (hok : m.Ok) (hwf : m.Wf) {tv : Nat → Bool} (h : PInv m tv false m.s) : tv = trivB m := by
  funext q
  by_cases hq : q < m.s
  · rw [Bool.eq_iff_iff, trivB_iff hok hwf hq]
    exact ⟨fun ht => triv_of_closed hok hwf tv (fun q hq hp x hx => ⟨h.outs q hq hp x hx, h.still rfl q hq hq hp x hx⟩) q hq ht, h.keep q hq⟩
  · rw [h.none q (by omega)]
    simp [trivB, hq]
/-- how many stay -/
def cntT (n : Nat) (tv : Nat → Bool) : Nat := ((List.range n).filter tv).length
theorem cntT_upd {n : Nat} {tv : Nat → Bool} {j : Nat} (hj : j < n) (ht : tv j = true) : cntT n (upd tv j false) < cntT n tv :=
  filter_len_lt _ (fun q _ h => by simp only [upd] at h; split at h; cases h; exact h) ⟨j, by simpa using hj, ht, by simp [upd]⟩
theorem cntT_le (n : Nat) (tv : Nat → Bool) : cntT n tv ≤ n := by have := List.length_filter_le tv (List.range n); simpa [cntT] using this
end Go.Proofs.Ytmacnofkpdikiaa
