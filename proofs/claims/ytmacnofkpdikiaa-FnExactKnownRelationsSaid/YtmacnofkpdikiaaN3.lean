/- Equal states of a table: no program in sight. -/
import Derived.Test.YtmacnofkpdikiaaN
namespace Go.Proofs.Ytmacnofkpdikiaa
open Go.RowKit
set_option linter.unusedVariables false
set_option linter.unusedSimpArgs false

/-- the first r below q that p lets in, or q -/
def lst (p : Nat → Bool) (q : Nat) : Nat := ((List.range q).find? p).getD q
theorem lst_le (p : Nat → Bool) (q : Nat) : lst p q ≤ q := by
  unfold lst
  cases h : (List.range q).find? p with
  | none => simp
  | some r => have := List.mem_of_find?_eq_some h; simp at this; simp; omega
theorem lst_hit {p : Nat → Bool} {q : Nat} (h : lst p q < q) : p (lst p q) = true := by
  unfold lst at h ⊢
  cases e : (List.range q).find? p with
  | none => rw [e] at h; simp at h
  | some r => exact List.find?_some e
theorem lst_min {p : Nat → Bool} {q r : Nat} (h : r < lst p q) : p r = false := by
  have hle := lst_le p q
  have hr : r < q := by omega
  unfold lst at h
  cases e : (List.range q).find? p with
  | none =>
    rw [List.find?_eq_none] at e
    have := e r (by simpa using hr)
    simpa using this
  | some s =>
    rw [e] at h
    simp only [Option.getD_some] at h
    rw [List.find?_range_eq_some] at e
    have := e.2.2 r h
    simpa using this
theorem lst_eq {p : Nat → Bool} {q r : Nat} (hr : r ≤ q) (h1 : r < q → p r = true) (h2 : ∀ s, s < r → p s = false) : lst p q = r := by
  have a := lst_le p q
  rcases Nat.lt_trichotomy (lst p q) r with c | c | c
  · have := h2 _ c
    rw [lst_hit (p := p) (q := q) (by omega)] at this; cases this
  · exact c
  · have := lst_min c
    rw [h1 (by omega)] at this; cases this

structure Tbl where
  n : Nat
  d : Nat
  nx : Nat → Nat → Nat
  ot : Nat → Nat → Nat
def Tbl.Wf (t : Tbl) : Prop := ∀ q x, q < t.n → x < t.d → t.nx q x < t.n
/-- not told apart by words of k letters -/
def Tbl.eqv (t : Tbl) : Nat → Nat → Nat → Bool
  | 0, _, _ => true
  | k + 1, q, r => (List.range t.d).all fun x => t.ot q x == t.ot r x && t.eqv k (t.nx q x) (t.nx r x)
def Tbl.cls (t : Tbl) (k q : Nat) : Nat := lst (t.eqv k q) q
section
variable (t : Tbl)
theorem Tbl.eqv_succ (k q r : Nat) : t.eqv (k + 1) q r = true ↔ ∀ x, x < t.d → t.ot q x = t.ot r x ∧ t.eqv k (t.nx q x) (t.nx r x) = true := by
  simp [Tbl.eqv, List.all_eq_true]
theorem Tbl.eqv_refl : ∀ k q, t.eqv k q q = true
  | 0, _ => rfl
  | k + 1, q => (t.eqv_succ k q q).2 fun x _ => ⟨rfl, Tbl.eqv_refl k _⟩
theorem Tbl.eqv_symm : ∀ k q r, t.eqv k q r = true → t.eqv k r q = true
  | 0, _, _, _ => rfl
  | k + 1, q, r, h => (t.eqv_succ k r q).2 fun x hx => have := (t.eqv_succ k q r).1 h x hx; ⟨this.1.symm, Tbl.eqv_symm k _ _ this.2⟩
theorem Tbl.eqv_trans : ∀ k q r s, t.eqv k q r = true → t.eqv k r s = true → t.eqv k q s = true
  | 0, _, _, _, _, _ => rfl
  | k + 1, q, r, s, h, h' => (t.eqv_succ k q s).2 fun x hx =>
    have a := (t.eqv_succ k q r).1 h x hx
    have b := (t.eqv_succ k r s).1 h' x hx
    ⟨a.1.trans b.1, Tbl.eqv_trans k _ _ _ a.2 b.2⟩
theorem Tbl.eqv_mono : ∀ k q r, t.eqv (k + 1) q r = true → t.eqv k q r = true
  | 0, _, _, _ => rfl
  | k + 1, q, r, h => (t.eqv_succ k q r).2 fun x hx => have := (t.eqv_succ (k + 1) q r).1 h x hx; ⟨this.1, Tbl.eqv_mono k _ _ this.2⟩
theorem Tbl.cls_le (k q : Nat) : t.cls k q ≤ q := lst_le _ _
theorem Tbl.cls_eqv (k q : Nat) : t.eqv k q (t.cls k q) = true := by
  by_cases h : t.cls k q < q
  · exact lst_hit h
  · have : t.cls k q = q := by have := t.cls_le k q; omega
    rw [this]; exact t.eqv_refl k q
theorem Tbl.cls_min {k q r : Nat} (h : t.eqv k q r = true) : t.cls k q ≤ r := by
  rcases Nat.lt_or_ge r (t.cls k q) with c | c
  · have := lst_min c; rw [h] at this; cases this
  · exact c
theorem Tbl.cls_iff (k q r : Nat) : t.eqv k q r = true ↔ t.cls k q = t.cls k r := by
  constructor
  · intro h
    have a := t.cls_min (t.eqv_trans k q r _ h (t.cls_eqv k r))
    have b := t.cls_min (t.eqv_trans k r q _ (t.eqv_symm k q r h) (t.cls_eqv k q))
    omega
  · intro h
    exact t.eqv_trans k q _ r (t.cls_eqv k q) (by rw [h]; exact t.eqv_symm k _ _ (t.cls_eqv k r))
theorem Tbl.cls_cls (k q : Nat) : t.cls k (t.cls k q) = t.cls k q := ((t.cls_iff k q _).1 (t.cls_eqv k q)).symm
theorem Tbl.cls_mono (k q : Nat) : t.cls k q ≤ t.cls (k + 1) q := t.cls_min (t.eqv_mono k q _ (t.cls_eqv (k + 1) q))
theorem Tbl.cls_zero (q : Nat) : t.cls 0 q = 0 := by have := t.cls_min (k := 0) (q := q) (r := 0) rfl; omega
/-- no class falls apart any more -/
def Tbl.St (k : Nat) : Prop := ∀ q, q < t.n → t.cls (k + 1) q = t.cls k q
theorem Tbl.St.iff {t : Tbl} {k : Nat} (h : t.St k) {q r : Nat} (hq : q < t.n) (hr : r < t.n) : t.eqv (k + 1) q r = true ↔ t.eqv k q r = true := by
  rw [t.cls_iff, t.cls_iff, h q hq, h r hr]
theorem Tbl.St.succ {t : Tbl} (hw : t.Wf) {k : Nat} (h : t.St k) : t.St (k + 1) := by
  have key : ∀ q r, q < t.n → r < t.n → (t.eqv (k + 2) q r = true ↔ t.eqv (k + 1) q r = true) := fun q r hq hr => by
    rw [t.eqv_succ (k + 1), t.eqv_succ k]
    constructor
    · intro hh x hx; exact ⟨(hh x hx).1, (h.iff (hw q x hq hx) (hw r x hr hx)).1 (hh x hx).2⟩
    · intro hh x hx; exact ⟨(hh x hx).1, (h.iff (hw q x hq hx) (hw r x hr hx)).2 (hh x hx).2⟩
  intro q hq
  have a := t.cls_le (k + 1) q
  have b := t.cls_min ((key q (t.cls (k + 1) q) hq (by omega)).2 (t.cls_eqv (k + 1) q))
  exact Nat.le_antisymm b (t.cls_mono (k + 1) q)
theorem Tbl.St.later {t : Tbl} (hw : t.Wf) {k : Nat} (h : t.St k) : ∀ j, t.St (k + j) ∧ ∀ q, q < t.n → t.cls (k + j) q = t.cls k q
  | 0 => ⟨h, fun _ _ => rfl⟩
  | j + 1 => ⟨(Tbl.St.later hw h j).1.succ hw, fun q hq => by rw [← Nat.add_assoc, (Tbl.St.later hw h j).1 q hq]; exact (Tbl.St.later hw h j).2 q hq⟩
/-- how many least ones there are below n -/
def Tbl.cnt (t : Tbl) (k : Nat) : Nat → Nat
  | 0 => 0
  | q + 1 => t.cnt k q + if t.cls k q = q then 1 else 0
theorem Tbl.cnt_le (k : Nat) : ∀ q, t.cnt k q ≤ q
  | 0 => Nat.le_refl _
  | q + 1 => by have := Tbl.cnt_le k q; simp only [Tbl.cnt]; split <;> omega
theorem Tbl.fix_mono {k q : Nat} (h : t.cls k q = q) : t.cls (k + 1) q = q := by have := t.cls_mono k q; have := t.cls_le (k + 1) q; omega
theorem Tbl.cnt_mono (k : Nat) : ∀ q, t.cnt k q ≤ t.cnt (k + 1) q
  | 0 => Nat.le_refl _
  | q + 1 => by
    have := Tbl.cnt_mono k q
    simp only [Tbl.cnt]
    by_cases h : t.cls k q = q
    · rw [if_pos h, if_pos (t.fix_mono h)]; omega
    · rw [if_neg h]; split <;> omega
theorem Tbl.cnt_lt (k : Nat) : ∀ q p, p < q → t.cls (k + 1) p = p → t.cls k p ≠ p → t.cnt k q < t.cnt (k + 1) q
  | 0, p, h, _, _ => by omega
  | q + 1, p, h, h1, h2 => by
    simp only [Tbl.cnt]
    by_cases e : p = q
    · subst e
      have := t.cnt_mono k p
      rw [if_pos h1, if_neg h2]; omega
    · have := Tbl.cnt_lt k q p (by omega) h1 h2
      by_cases h : t.cls k q = q
      · rw [if_pos h, if_pos (t.fix_mono h)]; omega
      · rw [if_neg h]; split <;> omega
theorem Tbl.not_st {k : Nat} (h : ¬ t.St k) : t.cnt k t.n < t.cnt (k + 1) t.n := by
  have : ∃ q, q < t.n ∧ t.cls (k + 1) q ≠ t.cls k q := by
    refine Classical.byContradiction fun hn => h fun q hq => Classical.byContradiction fun e => hn ⟨q, hq, e⟩
  obtain ⟨q, hq, hne⟩ := this
  have a := t.cls_mono k q
  have b := t.cls_le (k + 1) q
  refine t.cnt_lt k t.n (t.cls (k + 1) q) (by omega) (t.cls_cls (k + 1) q) ?_
  have e : t.cls k (t.cls (k + 1) q) = t.cls k q := ((t.cls_iff k q _).1 (t.eqv_mono k _ _ (t.cls_eqv (k + 1) q))).symm
  omega
theorem Tbl.st_some (hn : 1 ≤ t.n) : ∀ k, (∃ j, j < k ∧ t.St j) ∨ k + 1 ≤ t.cnt k t.n
  | 0 => .inr (by
    have : ∀ q, 1 ≤ q → 1 ≤ t.cnt 0 q := fun q => by
      induction q with
      | zero => intro h; omega
      | succ q ih =>
        intro _
        simp only [Tbl.cnt]
        by_cases e : q = 0
        · subst e; rw [if_pos (t.cls_zero 0)]; omega
        · have := ih (by omega); omega
    exact this _ hn)
  | k + 1 => by
    rcases Tbl.st_some hn k with ⟨j, hj, h⟩ | h
    · exact .inl ⟨j, by omega, h⟩
    · by_cases hs : t.St k
      · exact .inl ⟨k, by omega, hs⟩
      · have := t.not_st hs; exact .inr (by omega)
/-- the least state that is equal to one -/
def Tbl.fin (t : Tbl) (q : Nat) : Nat := t.cls t.n q
theorem Tbl.st_n (hw : t.Wf) (hn : 1 ≤ t.n) : ∃ j, j < t.n ∧ t.St j := by
  rcases t.st_some hn t.n with h | h
  · exact h
  · have := t.cnt_le t.n t.n; omega
theorem Tbl.fin_late (hw : t.Wf) (hn : 1 ≤ t.n) {k : Nat} (hk : t.n ≤ k) {q : Nat} (hq : q < t.n) : t.cls k q = t.fin q := by
  obtain ⟨j, hj, h⟩ := t.st_n hw hn
  have a := (h.later hw (k - j)).2 q hq
  have b := (h.later hw (t.n - j)).2 q hq
  rw [show j + (k - j) = k by omega] at a
  rw [show j + (t.n - j) = t.n by omega] at b
  rw [Tbl.fin, a, b]
theorem Tbl.fin_st (hw : t.Wf) (hn : 1 ≤ t.n) {k : Nat} (h : t.St k) {q : Nat} (hq : q < t.n) : t.cls k q = t.fin q := by
  have a := (h.later hw t.n).2 q hq
  rw [t.fin_late hw hn (by omega) hq] at a
  exact a.symm
theorem Tbl.fin_le (q : Nat) : t.fin q ≤ q := t.cls_le _ _
end
/-- the table of a machine -/
def Mch.tbl (m : Mch) : Tbl := ⟨m.s, m.l, m.nn, m.on⟩
theorem Mch.tbl_wf {m : Mch} (hok : m.Ok) (hwf : m.Wf) : m.tbl.Wf := fun q x hq hx => hok.nn_lt hwf hq hx
end Go.Proofs.Ytmacnofkpdikiaa
