/- Breadth first search over three moves, in plain Lean: a path is a number (0 the empty one, 3e+k+1 the path e and then the move k). -/
import Derived.Test.YtmacnofkpdikiaaH
namespace Go.Proofs.Ytmacnofkpdikiaa
set_option linter.unusedVariables false
set_option linter.unusedSimpArgs false
set_option linter.unusedSectionVars false

section
variable {α : Type} [DecidableEq α] (nb : Nat → α → α)
/-- where a path leads -/
def gAt (w : α) : Nat → α
  | 0 => w
  | e + 1 => nb (e % 3) (gAt w (e / 3))
termination_by e => e
decreasing_by omega
/-- its length -/
def gLen : Nat → Nat
  | 0 => 0
  | e + 1 => gLen (e / 3) + 1
termination_by e => e
decreasing_by omega
/-- its moves -/
def gStr : Nat → List Nat
  | 0 => []
  | e + 1 => gStr (e / 3) ++ [e % 3]
termination_by e => e
decreasing_by omega
/-- a path and then another one -/
def gCat (a : Nat) : Nat → Nat
  | 0 => a
  | e + 1 => 3 * gCat a (e / 3) + e % 3 + 1
termination_by e => e
decreasing_by omega
/-- it is the first one that leads there -/
def isF (w : α) (e : Nat) : Bool := (List.range e).all fun x => decide (gAt nb w x ≠ gAt nb w e)
def gF (w : α) (c : Nat) : List Nat := (List.range c).filter (isF nb w)

variable {nb}
theorem gAt_zero (w : α) : gAt nb w 0 = w := by rw [gAt]
theorem gAt_succ (w : α) (e : Nat) : gAt nb w (e + 1) = nb (e % 3) (gAt nb w (e / 3)) := by rw [gAt]
theorem gLen_zero : gLen 0 = 0 := by rw [gLen]
theorem gLen_succ (e : Nat) : gLen (e + 1) = gLen (e / 3) + 1 := by rw [gLen]
theorem gStr_zero : gStr 0 = [] := by rw [gStr]
theorem gStr_succ (e : Nat) : gStr (e + 1) = gStr (e / 3) ++ [e % 3] := by rw [gStr]
theorem gCat_zero (a : Nat) : gCat a 0 = a := by rw [gCat]
theorem gCat_succ (a e : Nat) : gCat a (e + 1) = 3 * gCat a (e / 3) + e % 3 + 1 := by rw [gCat]
theorem gAt_code (w : α) (e : Nat) {k : Nat} (hk : k < 3) : gAt nb w (3 * e + k + 1) = nb k (gAt nb w e) := by
  rw [gAt_succ, show (3 * e + k) % 3 = k by omega, show (3 * e + k) / 3 = e by omega]
theorem gLen_code (e : Nat) {k : Nat} (hk : k < 3) : gLen (3 * e + k + 1) = gLen e + 1 := by
  rw [gLen_succ, show (3 * e + k) / 3 = e by omega]
theorem gStr_code (e : Nat) {k : Nat} (hk : k < 3) : gStr (3 * e + k + 1) = gStr e ++ [k] := by
  rw [gStr_succ, show (3 * e + k) % 3 = k by omega, show (3 * e + k) / 3 = e by omega]
theorem gStr_length : ∀ e, (gStr e).length = gLen e := fun e => by
  induction e using Nat.strongRecOn with
  | _ e ih =>
    cases e with
    | zero => rw [gStr_zero, gLen_zero]; rfl
    | succ e => rw [gStr_succ, gLen_succ, List.length_append, ih (e / 3) (by omega)]; rfl
theorem gLen_mono : ∀ {a b : Nat}, a ≤ b → gLen a ≤ gLen b := by
  intro a
  induction a using Nat.strongRecOn with
  | _ a ih =>
    intro b h
    cases a with
    | zero => rw [gLen_zero]; omega
    | succ a =>
      cases b with
      | zero => omega
      | succ b =>
        rw [gLen_succ, gLen_succ]
        have := ih (a / 3) (by omega) (b := b / 3) (by omega)
        omega
theorem gCat_eq (a : Nat) : ∀ e, gCat a e = a * 3 ^ gLen e + e := fun e => by
  induction e using Nat.strongRecOn with
  | _ e ih =>
    cases e with
    | zero => rw [gCat_zero, gLen_zero]; simp
    | succ e =>
      rw [gCat_succ, gLen_succ, ih (e / 3) (by omega), Nat.pow_succ]
      generalize 3 ^ gLen (e / 3) = P
      rw [show a * (P * 3) = 3 * (a * P) by rw [Nat.mul_comm P 3, Nat.mul_left_comm]]
      omega
theorem gAt_cat (w : α) (a : Nat) : ∀ e, gAt nb w (gCat a e) = gAt nb (gAt nb w a) e := fun e => by
  induction e using Nat.strongRecOn with
  | _ e ih =>
    cases e with
    | zero => rw [gCat_zero, gAt_zero]
    | succ e => rw [gCat_succ, gAt_code w _ (Nat.mod_lt _ (by omega)), ih (e / 3) (by omega), gAt_succ]
theorem gLen_cat (a : Nat) : ∀ e, gLen (gCat a e) = gLen a + gLen e := fun e => by
  induction e using Nat.strongRecOn with
  | _ e ih =>
    cases e with
    | zero => rw [gCat_zero, gLen_zero]; rfl
    | succ e => rw [gCat_succ, gLen_code _ (Nat.mod_lt _ (by omega)), ih (e / 3) (by omega), gLen_succ]; omega
theorem gStr_cat (a : Nat) : ∀ e, gStr (gCat a e) = gStr a ++ gStr e := fun e => by
  induction e using Nat.strongRecOn with
  | _ e ih =>
    cases e with
    | zero => rw [gCat_zero, gStr_zero, List.append_nil]
    | succ e => rw [gCat_succ, gStr_code _ (Nat.mod_lt _ (by omega)), ih (e / 3) (by omega), gStr_succ, List.append_assoc]
/-- a path's first move -/
theorem g_head : ∀ (e : Nat), 0 < e → ∃ k x, k < 3 ∧ e = gCat (k + 1) x := fun e => by
  induction e using Nat.strongRecOn with
  | _ e ih =>
    intro h
    cases e with
    | zero => omega
    | succ e =>
      by_cases h0 : e / 3 = 0
      · exact ⟨e, 0, by omega, by rw [gCat_zero]⟩
      · obtain ⟨k, x, hk, hx⟩ := ih (e / 3) (by omega) (by omega)
        refine ⟨k, 3 * x + e % 3 + 1, hk, ?_⟩
        rw [gCat_succ, show (3 * x + e % 3) / 3 = x by omega, show (3 * x + e % 3) % 3 = e % 3 by omega, ← hx]
        omega
theorem g_one (w : α) {k : Nat} (hk : k < 3) : gAt nb w (k + 1) = nb k w := by
  have := gAt_code (nb := nb) w 0 hk
  rwa [gAt_zero, Nat.mul_zero, Nat.zero_add] at this
theorem gLen_one {k : Nat} (hk : k < 3) : gLen (k + 1) = 1 := by
  have := gLen_code 0 hk
  rwa [gLen_zero, Nat.mul_zero, Nat.zero_add] at this
theorem gStr_one {k : Nat} (hk : k < 3) : gStr (k + 1) = [k] := by
  have := gStr_code 0 hk
  rwa [gStr_zero, Nat.mul_zero, Nat.zero_add] at this

/-! first paths -/
theorem isF_iff {w : α} {e : Nat} : isF nb w e = true ↔ ∀ x, x < e → gAt nb w x ≠ gAt nb w e := by simp [isF]
theorem isF_zero (w : α) : isF nb w 0 = true := isF_iff.2 fun x h => by omega
theorem first_of (w : α) : ∀ e, ∃ E, E ≤ e ∧ gAt nb w E = gAt nb w e ∧ isF nb w E = true := fun e => by
  induction e using Nat.strongRecOn with
  | _ e ih =>
    by_cases h : isF nb w e = true
    · exact ⟨e, Nat.le_refl _, rfl, h⟩
    · have : ∃ x, x < e ∧ gAt nb w x = gAt nb w e := by
        rw [isF_iff] at h
        simpa using h
      obtain ⟨x, hx, e1⟩ := this
      obtain ⟨E, h1, h2, h3⟩ := ih x hx
      exact ⟨E, by omega, h2.trans e1, h3⟩
theorem isF_parent {w : α} {e k : Nat} (hk : k < 3) (h : isF nb w (3 * e + k + 1) = true) : isF nb w e = true := isF_iff.2 fun x hx he => by
  refine isF_iff.1 h (3 * x + k + 1) (by omega) ?_
  rw [gAt_code w _ hk, gAt_code w _ hk, he]
theorem isF_inj {w : α} {a b : Nat} (ha : isF nb w a = true) (hb : isF nb w b = true) (h : gAt nb w a = gAt nb w b) : a = b := by
  rcases Nat.lt_trichotomy a b with hlt | he | hlt
  · exact absurd h (isF_iff.1 hb a hlt)
  · exact he
  · exact absurd h.symm (isF_iff.1 ha b hlt)
theorem gF_mem {w : α} {c e : Nat} : e ∈ gF nb w c ↔ e < c ∧ isF nb w e = true := by simp [gF]
theorem gF_succ (w : α) (c : Nat) : gF nb w (c + 1) = gF nb w c ++ if isF nb w c = true then [c] else [] := by
  simp only [gF, List.range_succ, List.filter_append, List.filter_cons, List.filter_nil]
theorem gF_one (w : α) : gF nb w 1 = [0] := by rw [gF_succ, if_pos (isF_zero w)]; rfl
theorem gF_more (w : α) {c c' : Nat} (h : c ≤ c') (hx : ∀ x, c ≤ x → x < c' → isF nb w x = false) : gF nb w c' = gF nb w c := by
  induction c' with
  | zero => rw [show c = 0 by omega]
  | succ c' ih =>
    by_cases e : c = c' + 1
    · rw [e]
    · rw [gF_succ, hx c' (by omega) (by omega), ih (by omega) (fun x h1 h2 => hx x h1 (by omega))]
      simp
/-- seen: no first path -/
theorem gF_seen (w : α) (c : Nat) : (∃ e ∈ gF nb w c, gAt nb w e = gAt nb w c) ↔ isF nb w c = false := by
  constructor
  · rintro ⟨e, he, h⟩
    cases hc : isF nb w c
    · rfl
    · exact absurd h (isF_iff.1 hc e (gF_mem.1 he).1)
  · intro h
    obtain ⟨E, h1, h2, h3⟩ := first_of w c
    have : E ≠ c := fun e => by rw [e, h] at h3; cases h3
    exact ⟨E, gF_mem.2 ⟨by omega, h3⟩, h2⟩
theorem gF_sorted (w : α) (c : Nat) : (gF nb w c).Pairwise (· < ·) := (List.pairwise_lt_range).filter _
theorem gF_lt {w : α} {c i j a b : Nat} (hi : (gF nb w c)[i]? = some a) (hj : (gF nb w c)[j]? = some b) (h : i < j) : a < b := by
  obtain ⟨h1, e1⟩ := List.getElem?_eq_some_iff.1 hi
  obtain ⟨h2, e2⟩ := List.getElem?_eq_some_iff.1 hj
  have := List.pairwise_iff_getElem.1 (gF_sorted w c) i j h1 h2 h
  omega
theorem gF_idx {w : α} {c i j a b : Nat} (hi : (gF nb w c)[i]? = some a) (hj : (gF nb w c)[j]? = some b) (h : a < b) : i < j := by
  rcases Nat.lt_trichotomy i j with hlt | he | hlt
  · exact hlt
  · subst he; rw [hi] at hj; injection hj; omega
  · have := gF_lt hj hi hlt; omega
/-- the round for the i-th is done; the next one -/
theorem gF_next {w : α} {i e e' : Nat} (hi : (gF nb w (3 * e + 4))[i]? = some e) (hn : (gF nb w (3 * e + 4))[i + 1]? = some e') : gF nb w (3 * e' + 1) = gF nb w (3 * e + 4) := by
  have hlt := gF_lt hi hn (by omega)
  refine gF_more w (by omega) (fun x h1 h2 => ?_)
  cases hx : isF nb w x
  · rfl
  · exfalso
    obtain ⟨p, k, hk, hxe⟩ : ∃ p k, k < 3 ∧ x = 3 * p + k + 1 := ⟨(x - 1) / 3, (x - 1) % 3, Nat.mod_lt _ (by omega), by omega⟩
    subst hxe
    have hp := isF_parent hk hx
    have he' := (gF_mem.1 (List.mem_of_getElem? hn)).1
    have hm : p ∈ gF nb w (3 * e + 4) := gF_mem.2 ⟨by omega, hp⟩
    obtain ⟨j, hj⟩ := List.mem_iff_getElem?.1 hm
    have := gF_idx hi hj (by omega)
    have := gF_idx hj hn (by omega)
    omega
/-- there is no next one -/
theorem gF_last {w : α} {i e : Nat} (hi : (gF nb w (3 * e + 4))[i]? = some e) (hn : (gF nb w (3 * e + 4)).length ≤ i + 1) : ∀ x, isF nb w x = true → x < 3 * e + 4 := fun x => by
  induction x using Nat.strongRecOn with
  | _ x ih =>
    intro hx
    by_cases h : x < 3 * e + 4
    · exact h
    · exfalso
      obtain ⟨p, k, hk, hxe⟩ : ∃ p k, k < 3 ∧ x = 3 * p + k + 1 := ⟨(x - 1) / 3, (x - 1) % 3, Nat.mod_lt _ (by omega), by omega⟩
      subst hxe
      have hp := isF_parent hk hx
      have hm : p ∈ gF nb w (3 * e + 4) := gF_mem.2 ⟨ih p (by omega) hp, hp⟩
      obtain ⟨j, hj⟩ := List.mem_iff_getElem?.1 hm
      have := gF_idx hi hj (by omega)
      have := (List.getElem?_eq_some_iff.1 hj).1
      omega
/-- lengths of paths are at most the places -/
theorem gF_len {w : α} {c : Nat} : ∀ {i e : Nat}, (gF nb w c)[i]? = some e → gLen e ≤ i := by
  intro i
  induction i using Nat.strongRecOn with
  | _ i ih =>
    intro e h
    cases e with
    | zero => rw [gLen_zero]; omega
    | succ e =>
      have hm := gF_mem.1 (List.mem_of_getElem? h)
      have hp : isF nb w (e / 3) = true := isF_parent (k := e % 3) (Nat.mod_lt _ (by omega)) (by rw [show 3 * (e / 3) + e % 3 + 1 = e + 1 by omega]; exact hm.2)
      have hm2 : e / 3 ∈ gF nb w c := gF_mem.2 ⟨by omega, hp⟩
      obtain ⟨j, hj⟩ := List.mem_iff_getElem?.1 hm2
      have hlt := gF_idx hj h (by omega)
      have := ih j hlt hj
      rw [gLen_succ]; omega
end
end Go.Proofs.Ytmacnofkpdikiaa
