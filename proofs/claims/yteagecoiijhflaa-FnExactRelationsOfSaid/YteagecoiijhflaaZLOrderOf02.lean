import Derived.Test.YteagecoiijhflaaZLOrderOf01
/- Equal states of a table: no program in sight. -/
namespace Go.Proofs.Yteagecoiijhflaa
open Go.RowKit
set_option linter.unusedVariables false
set_option linter.unusedSimpArgs false

/-- the first r below q that p lets in, or q -/
def lst (p : Nat → Bool) (q : Nat) : Nat := ((List.range q).find? p).getD q
theorem lst_le (p : Nat → Bool) (q : Nat) : lst p q ≤ q := by
  unfold lst
  cases h : (List.range q).find? p with
  | none => simp
  | some r => have := List.mem_of_find?_eq_some h; simp at this; simp; omega
theorem lst_hit {p : Nat → Bool} {q : Nat} (h : lst p q < q) : p (lst p q) = true := by
  unfold lst at h ⊢
  cases e : (List.range q).find? p with
  | none => rw [e] at h; simp at h
  | some r => exact List.find?_some e
theorem lst_min {p : Nat → Bool} {q r : Nat} (h : r < lst p q) : p r = false := by
  have hle := lst_le p q
  have hr : r < q := by omega
  unfold lst at h
  cases e : (List.range q).find? p with
  | none =>
    rw [List.find?_eq_none] at e
    have := e r (by simpa using hr)
    simpa using this
  | some s =>
    rw [e] at h
    simp only [Option.getD_some] at h
    rw [List.find?_range_eq_some] at e
    have := e.2.2 r h
    simpa using this
theorem lst_eq {p : Nat → Bool} {q r : Nat} (hr : r ≤ q) (h1 : r < q → p r = true) (h2 : ∀ s, s < r → p s = false) : lst p q = r := by
  have a := lst_le p q
  rcases Nat.lt_trichotomy (lst p q) r with c | c | c
  · have := h2 _ c
    rw [lst_hit (p := p) (q := q) (by omega)] at this; cases this
  · exact c
  · have := lst_min c
    rw [h1 (by omega)] at this; cases this

structure Tbl where
  n : Nat
  d : Nat
  nx : Nat → Nat → Nat
  ot : Nat → Nat → Nat
def Tbl.Wf (t : Tbl) : Prop := ∀ q x, q < t.n → x < t.d → t.nx q x < t.n
/-- not told apart by words of k letters -/
def Tbl.eqv (t : Tbl) : Nat → Nat → Nat → Bool
  | 0, _, _ => true
  | k + 1, q, r => (List.range t.d).all fun x => t.ot q x == t.ot r x && t.eqv k (t.nx q x) (t.nx r x)
def Tbl.cls (t : Tbl) (k q : Nat) : Nat := lst (t.eqv k q) q
section
variable (t : Tbl)
theorem Tbl.eqv_succ (k q r : Nat) : t.eqv (k + 1) q r = true ↔ ∀ x, x < t.d → t.ot q x = t.ot r x ∧ t.eqv k (t.nx q x) (t.nx r x) = true := by
  simp [Tbl.eqv, List.all_eq_true]
theorem Tbl.eqv_refl : ∀ k q, t.eqv k q q = true
  | 0, _ => rfl
  | k + 1, q => (t.eqv_succ k q q).2 fun x _ => ⟨rfl, Tbl.eqv_refl k _⟩
theorem Tbl.eqv_symm : ∀ k q r, t.eqv k q r = true → t.eqv k r q = true
  | 0, _, _, _ => rfl
  | k + 1, q, r, h => (t.eqv_succ k r q).2 fun x hx => have := (t.eqv_succ k q r).1 h x hx; ⟨this.1.symm, Tbl.eqv_symm k _ _ this.2⟩
theorem Tbl.eqv_trans : ∀ k q r s, t.eqv k q r = true → t.eqv k r s = true → t.eqv k q s = true
  | 0, _, _, _, _, _ => rfl
  | k + 1, q, r, s, h, h' => (t.eqv_succ k q s).2 fun x hx =>
    have a := (t.eqv_succ k q r).1 h x hx
    have b := (t.eqv_succ k r s).1 h' x hx
    ⟨a.1.trans b.1, Tbl.eqv_trans k _ _ _ a.2 b.2⟩
theorem Tbl.eqv_mono : ∀ k q r, t.eqv (k + 1) q r = true → t.eqv k q r = true
  | 0, _, _, _ => rfl
  | k + 1, q, r, h => (t.eqv_succ k q r).2 fun x hx => have := (t.eqv_succ (k + 1) q r).1 h x hx; ⟨this.1, Tbl.eqv_mono k _ _ this.2⟩
theorem Tbl.cls_le (k q : Nat) : t.cls k q ≤ q := lst_le _ _
theorem Tbl.cls_eqv (k q : Nat) : t.eqv k q (t.cls k q) = true := by
  by_cases h : t.cls k q < q
  · exact lst_hit h
  · have : t.cls k q = q := by have := t.cls_le k q; omega
    rw [this]; exact t.eqv_refl k q
theorem Tbl.cls_min {k q r : Nat} (h : t.eqv k q r = true) : t.cls k q ≤ r := by
  rcases Nat.lt_or_ge r (t.cls k q) with c | c
  · have := lst_min c; rw [h] at this; cases this
  · exact c
theorem Tbl.cls_iff (k q r : Nat) : t.eqv k q r = true ↔ t.cls k q = t.cls k r := by
  constructor
  · intro h
    have a := t.cls_min (t.eqv_trans k q r _ h (t.cls_eqv k r))
    have b := t.cls_min (t.eqv_trans k r q _ (t.eqv_symm k q r h) (t.cls_eqv k q))
    omega
  · intro h
    exact t.eqv_trans k q _ r (t.cls_eqv k q) (by rw [h]; exact t.eqv_symm k _ _ (t.cls_eqv k r))
theorem Tbl.cls_cls (k q : Nat) : t.cls k (t.cls k q) = t.cls k q := ((t.cls_iff k q _).1 (t.cls_eqv k q)).symm
theorem Tbl.cls_mono (k q : Nat) : t.cls k q ≤ t.cls (k + 1) q := t.cls_min (t.eqv_mono k q _ (t.cls_eqv (k + 1) q))
theorem Tbl.cls_zero (q : Nat) : t.cls 0 q = 0 := by have := t.cls_min (k := 0) (q := q) (r := 0) rfl; omega
/-- no class falls apart any more -/
def Tbl.St (k : Nat) : Prop := ∀ q, q < t.n → t.cls (k + 1) q = t.cls k q
theorem Tbl.St.iff {t : Tbl} {k : Nat} (h : t.St k) {q r : Nat} (hq : q < t.n) (hr : r < t.n) : t.eqv (k + 1) q r = true ↔ t.eqv k q r = true := by
  rw [t.cls_iff, t.cls_iff, h q hq, h r hr]
theorem Tbl.St.succ {t : Tbl} (hw : t.Wf) {k : Nat} (h : t.St k) : t.St (k + 1) := by
  have key : ∀ q r, q < t.n → r < t.n → (t.eqv (k + 2) q r = true ↔ t.eqv (k + 1) q r = true) := fun q r hq hr => by
    rw [t.eqv_succ (k + 1), t.eqv_succ k]
    constructor
    · intro hh x hx; exact ⟨(hh x hx).1, (h.iff (hw q x hq hx) (hw r x hr hx)).1 (hh x hx).2⟩
    · intro hh x hx; exact ⟨(hh x hx).1, (h.iff (hw q x hq hx) (hw r x hr hx)).2 (hh x hx).2⟩
  intro q hq
  have a := t.cls_le (k + 1) q
  have b := t.cls_min ((key q (t.cls (k + 1) q) hq (by omega)).2 (t.cls_eqv (k + 1) q))
  exact Nat.le_antisymm b (t.cls_mono (k + 1) q)
theorem Tbl.St.later {t : Tbl} (hw : t.Wf) {k : Nat} (h : t.St k) : ∀ j, t.St (k + j) ∧ ∀ q, q < t.n → t.cls (k + j) q = t.cls k q
  | 0 => ⟨h, fun _ _ => rfl⟩
  | j + 1 => ⟨(Tbl.St.later hw h j).1.succ hw, fun q hq => by rw [← Nat.add_assoc, (Tbl.St.later hw h j).1 q hq]; exact (Tbl.St.later hw h j).2 q hq⟩
/-- how many least ones there are below n -/
def Tbl.cnt (t : Tbl) (k : Nat) : Nat → Nat
  | 0 => 0
  | q + 1 => t.cnt k q + if t.cls k q = q then 1 else 0
theorem Tbl.cnt_le (k : Nat) : ∀ q, t.cnt k q ≤ q
  | 0 => Nat.le_refl _
  | q + 1 => by have := Tbl.cnt_le k q; simp only [Tbl.cnt]; split <;> omega
theorem Tbl.fix_mono {k q : Nat} (h : t.cls k q = q) : t.cls (k + 1) q = q := by have := t.cls_mono k q; have := t.cls_le (k + 1) q; omega
theorem Tbl.cnt_mono (k : Nat) : ∀ q, t.cnt k q ≤ t.cnt (k + 1) q
  | 0 => Nat.le_refl _
  | q + 1 => by
    have := Tbl.cnt_mono k q
    simp only [Tbl.cnt]
    by_cases h : t.cls k q = q
    · rw [if_pos h, if_pos (t.fix_mono h)]; omega
    · rw [if_neg h]; split <;> omega
theorem Tbl.cnt_lt (k : Nat) : ∀ q p, p < q → t.cls (k + 1) p = p → t.cls k p ≠ p → t.cnt k q < t.cnt (k + 1) q
  | 0, p, h, _, _ => by omega
  | q + 1, p, h, h1, h2 => by
    simp only [Tbl.cnt]
    by_cases e : p = q
    · subst e
      have := t.cnt_mono k p
      rw [if_pos h1, if_neg h2]; omega
    · have := Tbl.cnt_lt k q p (by omega) h1 h2
      by_cases h : t.cls k q = q
      · rw [if_pos h, if_pos (t.fix_mono h)]; omega
      · rw [if_neg h]; split <;> omega
theorem Tbl.not_st {k : Nat} (h : ¬ t.St k) : t.cnt k t.n < t.cnt (k + 1) t.n := by
  have : ∃ q, q < t.n ∧ t.cls (k + 1) q ≠ t.cls k q := by
    refine Classical.byContradiction fun hn => h fun q hq => Classical.byContradiction fun e => hn ⟨q, hq, e⟩
  obtain ⟨q, hq, hne⟩ := this
  have a := t.cls_mono k q
  have b := t.cls_le (k + 1) q
  refine t.cnt_lt k t.n (t.cls (k + 1) q) (by omega) (t.cls_cls (k + 1) q) ?_
  have e : t.cls k (t.cls (k + 1) q) = t.cls k q := ((t.cls_iff k q _).1 (t.eqv_mono k _ _ (t.cls_eqv (k + 1) q))).symm
  omega
theorem Tbl.st_some (hn : 1 ≤ t.n) : ∀ k, (∃ j, j < k ∧ t.St j) ∨ k + 1 ≤ t.cnt k t.n
  | 0 => .inr (by
    have : ∀ q, 1 ≤ q → 1 ≤ t.cnt 0 q := fun q => by
      induction q with
      | zero => intro h; omega
      | succ q ih =>
        intro _
        simp only [Tbl.cnt]
        by_cases e : q = 0
        · subst e; rw [if_pos (t.cls_zero 0)]; omega
        · have := ih (by omega); omega
    exact this _ hn)
  | k + 1 => by
    rcases Tbl.st_some hn k with ⟨j, hj, h⟩ | h
    · exact .inl ⟨j, by omega, h⟩
    · by_cases hs : t.St k
      · exact .inl ⟨k, by omega, hs⟩
      · have := t.not_st hs; exact .inr (by omega)
/-- the least state that is equal to one -/
def Tbl.fin (t : Tbl) (q : Nat) : Nat := t.cls t.n q
theorem Tbl.st_n (hw : t.Wf) (hn : 1 ≤ t.n) : ∃ j, j < t.n ∧ t.St j := by
  rcases t.st_some hn t.n with h | h
  · exact h
  · have := t.cnt_le t.n t.n; omega
theorem Tbl.fin_late (hw : t.Wf) (hn : 1 ≤ t.n) {k : Nat} (hk : t.n ≤ k) {q : Nat} (hq : q < t.n) : t.cls k q = t.fin q := by
  obtain ⟨j, hj, h⟩ := t.st_n hw hn
  have a := (h.later hw (k - j)).2 q hq
  have b := (h.later hw (t.n - j)).2 q hq
  rw [show j + (k - j) = k by omega] at a
  rw [show j + (t.n - j) = t.n by omega] at b
  rw [Tbl.fin, a, b]
theorem Tbl.fin_st (hw : t.Wf) (hn : 1 ≤ t.n) {k : Nat} (h : t.St k) {q : Nat} (hq : q < t.n) : t.cls k q = t.fin q := by
  have a := (h.later hw t.n).2 q hq
  rw [t.fin_late hw hn (by omega) hq] at a
  exact a.symm
theorem Tbl.fin_le (q : Nat) : t.fin q ≤ q := t.cls_le _ _
end
/-- the table of a machine -/
def Mch.tbl (m : Mch) : Tbl := ⟨m.s, m.l, m.nn, m.on⟩
theorem Mch.tbl_wf {m : Mch} (hok : m.Ok) (hwf : m.Wf) : m.tbl.Wf := fun q x hq hx => hok.nn_lt hwf hq hx
end Go.Proofs.Yteagecoiijhflaa

/- Trivial states: no program in sight. -/
namespace Go.Proofs.Yteagecoiijhflaa
set_option linter.unusedVariables false
set_option linter.unusedSimpArgs false

/-- q leads the words of at most r letters to themselves -/
def trivK (m : Mch) : Nat → Nat → Bool
  | 0, _ => true
  | r + 1, q => (List.range m.l).all fun x => m.on q x == x && trivK m r (m.nn q x)
def Triv (m : Mch) (q : Nat) : Prop := ∀ r, trivK m r q = true
def trivB (m : Mch) (q : Nat) : Bool := decide (q < m.s) && trivK m m.s q

theorem trivK_succ {m : Mch} {r q : Nat} : trivK m (r + 1) q = true ↔ ∀ x, x < m.l → m.on q x = x ∧ trivK m r (m.nn q x) = true := by
  simp [trivK, List.all_eq_true]
theorem trivK_mono {m : Mch} : ∀ (r q : Nat), trivK m (r + 1) q = true → trivK m r q = true
  | 0, q, _ => rfl
  | r + 1, q, h => by
    rw [trivK_succ] at h ⊢
    exact fun x hx => ⟨(h x hx).1, trivK_mono r _ (h x hx).2⟩
theorem trivK_le {m : Mch} {q : Nat} : ∀ (d r : Nat), trivK m (r + d) q = true → trivK m r q = true
  | 0, r, h => h
  | d + 1, r, h => trivK_le d r (trivK_mono _ _ h)
theorem Triv.out {m : Mch} {q : Nat} (h : Triv m q) {x : Nat} (hx : x < m.l) : m.on q x = x := (trivK_succ.1 (h 1) x hx).1
theorem Triv.next {m : Mch} {q : Nat} (h : Triv m q) {x : Nat} (hx : x < m.l) : Triv m (m.nn q x) := fun r => (trivK_succ.1 (h (r + 1)) x hx).2

/-- whatever set of states keeps all letters and is closed is trivial -/
theorem triv_of_closed {m : Mch} (hok : m.Ok) (hwf : m.Wf) (p : Nat → Bool) (h : ∀ q, q < m.s → p q = true → ∀ x, x < m.l → m.on q x = x ∧ p (m.nn q x) = true) :
    ∀ q, q < m.s → p q = true → Triv m q := fun q hq hp r => by
  induction r generalizing q with
  | zero => rfl
  | succ r ih =>
    rw [trivK_succ]
    exact fun x hx => ⟨(h q hq hp x hx).1, ih _ (hok.nn_lt hwf hq hx) (h q hq hp x hx).2⟩

/-- how many states lead the words of r letters to themselves -/
def cntK (m : Mch) (r : Nat) : Nat := ((List.range m.s).filter fun q => trivK m r q).length

theorem filter_len_lt {p p' : Nat → Bool} : ∀ (l : List Nat), (∀ q ∈ l, p' q = true → p q = true) → (∃ q ∈ l, p q = true ∧ p' q = false) → (l.filter p').length < (l.filter p).length
  | [], _, ⟨q, hq, _⟩ => by simp at hq
  | a :: t, h, ⟨q, hq, h1, h2⟩ => by
    have hle : (t.filter p').length ≤ (t.filter p).length := by
      clear hq h1 h2
      induction t with
      | nil => simp
      | cons b t ih =>
        have := ih (fun q hq => h q (by simp only [List.mem_cons] at hq ⊢; rcases hq with rfl | hq <;> simp [*]))
        have hb := h b (by simp)
        simp only [List.filter_cons]
        cases e : p' b <;> cases e2 : p b <;> simp_all <;> omega
    have ha := h a (by simp)
    simp only [List.mem_cons] at hq
    simp only [List.filter_cons]
    rcases hq with rfl | hq
    · simp [h1, h2]; omega
    · have := filter_len_lt t (fun q hq => h q (by simp [hq])) ⟨q, hq, h1, h2⟩
      cases e : p' a <;> cases e2 : p a <;> simp_all <;> omega

theorem cntK_lt {m : Mch} {r : Nat} (h : ∃ q, q < m.s ∧ trivK m r q = true ∧ trivK m (r + 1) q = false) : cntK m (r + 1) < cntK m r := by
  obtain ⟨q, hq, h1, h2⟩ := h
  exact filter_len_lt _ (fun q _ => trivK_mono r q) ⟨q, by simpa using hq, h1, h2⟩
theorem cntK_zero (m : Mch) : cntK m 0 = m.s := by
  have : (List.range m.s).filter (fun q => trivK m 0 q) = List.range m.s := List.filter_eq_self.2 (fun _ _ => rfl)
  rw [cntK, this, List.length_range]
/-- a round that turns nothing: all is done -/
theorem triv_of_still {m : Mch} (hok : m.Ok) (hwf : m.Wf) {r : Nat} (h : ∀ q, q < m.s → trivK m r q = true → trivK m (r + 1) q = true) {q : Nat} (hq : q < m.s) (hp : trivK m r q = true) : Triv m q :=
  triv_of_closed hok hwf (trivK m r) (fun q hq hp => trivK_succ.1 (h q hq hp)) q hq hp

theorem still_or {m : Mch} : ∀ r, (∃ k, k ≤ r ∧ ∀ q, q < m.s → trivK m k q = true → trivK m (k + 1) q = true) ∨ cntK m (r + 1) + (r + 1) ≤ m.s
  | 0 => by
    by_cases h : ∃ q, q < m.s ∧ trivK m 0 q = true ∧ trivK m (0 + 1) q = false
    · have := cntK_lt h
      have := cntK_zero m
      right; omega
    · left
      refine ⟨0, Nat.le_refl _, fun q hq hp => ?_⟩
      cases e : trivK m (0 + 1) q
      · exact absurd ⟨q, hq, hp, e⟩ h
      · rfl
  | r + 1 => by
    rcases still_or (m := m) r with ⟨k, hk, h⟩ | h0
    · exact .inl ⟨k, by omega, h⟩
    · by_cases h : ∃ q, q < m.s ∧ trivK m (r + 1) q = true ∧ trivK m (r + 1 + 1) q = false
      · have := cntK_lt h
        right; omega
      · left
        refine ⟨r + 1, Nat.le_refl _, fun q hq hp => ?_⟩
        cases e : trivK m (r + 1 + 1) q
        · exact absurd ⟨q, hq, hp, e⟩ h
        · rfl

theorem triv_of_many {m : Mch} (hok : m.Ok) (hwf : m.Wf) {q : Nat} (hq : q < m.s) (h : trivK m m.s q = true) : Triv m q := by
  rcases still_or (m := m) m.s with ⟨k, hk, hs⟩ | h0
  · exact triv_of_still hok hwf hs hq (trivK_le (m.s - k) k (by rw [show k + (m.s - k) = m.s by omega]; exact h))
  · omega
theorem trivB_iff {m : Mch} (hok : m.Ok) (hwf : m.Wf) {q : Nat} (hq : q < m.s) : trivB m q = true ↔ Triv m q := by
  simp only [trivB, Bool.and_eq_true, decide_eq_true_eq]
  exact ⟨fun h => triv_of_many hok hwf hq h.2, fun h => ⟨hq, h _⟩⟩

/-! The reference's rounds: it writes into the list that it reads. -/
structure TInv (m : Mch) (tv : Nat → Bool) (r : Nat) : Prop where
  keep : ∀ q, q < m.s → Triv m q → tv q = true
  tells : ∀ q, q < m.s → tv q = true → trivK m r q = true
  none : ∀ q, m.s ≤ q → tv q = false
def upd (tv : Nat → Bool) (j : Nat) (b : Bool) : Nat → Bool := fun q => if q = j then b else tv q
structure TInv2 (m : Mch) (tv : Nat → Bool) (r j : Nat) : Prop extends TInv m tv r where
  done : ∀ q, q < j → q < m.s → tv q = true → trivK m (r + 1) q = true
structure TInv3 (m : Mch) (tv : Nat → Bool) (r j x : Nat) : Prop extends TInv2 m tv r j where
  part : tv j = true → ∀ y, y < x → m.on j y = y ∧ trivK m r (m.nn j y) = true

theorem TInv.start {m : Mch} {tv : Nat → Bool} (h1 : ∀ q, q < m.s → tv q = true) (h2 : ∀ q, m.s ≤ q → tv q = false) : TInv m tv 0 := ⟨fun q hq _ => h1 q hq, fun _ _ _ => rfl, h2⟩
theorem TInv.begin {m : Mch} {tv : Nat → Bool} {r : Nat} (h : TInv m tv r) : TInv2 m tv r 0 := ⟨h, fun q hq => by omega⟩
theorem TInv2.begin {m : Mch} {tv : Nat → Bool} {r j : Nat} (h : TInv2 m tv r j) : TInv3 m tv r j 0 := ⟨h, fun _ y hy => by omega⟩
theorem TInv3.step {m : Mch} (hok : m.Ok) (hwf : m.Wf) {tv : Nat → Bool} {r j x : Nat} (hj : j < m.s) (hx : x < m.l) (h : TInv3 m tv r j x) {b : Bool} (hb : b = (tv j && (m.on j x == x) && tv (m.nn j x))) :
    TInv3 m (upd tv j b) r j (x + 1) := by
  have hle : ∀ q, upd tv j b q = true → tv q = true := fun q hq => by
    simp only [upd] at hq
    split at hq
    · rename_i e; rw [hb, Bool.and_eq_true, Bool.and_eq_true] at hq; rw [e]; exact hq.1.1
    · exact hq
  refine ⟨⟨⟨fun q hq ht => ?_, fun q hq ht => h.tells q hq (hle q ht), fun q hq => ?_⟩, fun q hqj hq ht => ?_⟩, fun ht y hy => ?_⟩
  · simp only [upd]
    split
    · rename_i e; subst e
      rw [hb, h.keep q hq ht, ht.out hx, h.keep _ (hok.nn_lt hwf hq hx) (ht.next hx)]; simp
    · exact h.keep q hq ht
  · simp only [upd]
    rw [if_neg (by omega)]
    exact h.none q hq
  · exact h.done q hqj hq (hle q ht)
  · have hb1 : b = true := by simpa [upd] using ht
    rw [hb, Bool.and_eq_true, Bool.and_eq_true, beq_iff_eq] at hb1
    by_cases e : y = x
    · subst e; exact ⟨hb1.1.2, h.tells _ (hok.nn_lt hwf hj hx) hb1.2⟩
    · exact h.part hb1.1.1 y (by omega)
theorem TInv3.fin {m : Mch} {tv : Nat → Bool} {r j : Nat} (h : TInv3 m tv r j m.l) : TInv2 m tv r (j + 1) := ⟨h.toTInv, fun q hqj hq ht => by
  by_cases e : q = j
  · subst e; rw [trivK_succ]; exact h.part ht
  · exact h.done q (by omega) hq ht⟩
theorem TInv2.fin {m : Mch} {tv : Nat → Bool} {r : Nat} (h : TInv2 m tv r m.s) : TInv m tv (r + 1) := ⟨h.keep, fun q hq ht => h.done q hq hq ht, h.none⟩
theorem TInv.fin {m : Mch} (hok : m.Ok) (hwf : m.Wf) {tv : Nat → Bool} {r : Nat} (hr : m.s ≤ r) (h : TInv m tv r) : tv = trivB m := by
  funext q
  by_cases hq : q < m.s
  · rw [Bool.eq_iff_iff, trivB_iff hok hwf hq]
    exact ⟨fun ht => triv_of_many hok hwf hq (trivK_le (r - m.s) m.s (by rw [show m.s + (r - m.s) = r by omega]; exact h.tells q hq ht)), h.keep q hq⟩
  · rw [h.none q (by omega)]
    simp [trivB, hq]

end Go.Proofs.Yteagecoiijhflaa

/- Group words: normal words, images, sections, the search through the sections; no program in sight. -/
namespace Go.Proofs.Yteagecoiijhflaa
open Go.RowKit
set_option linter.unusedVariables false
set_option linter.unusedSimpArgs false

abbrev Wd := List Int
/-- the state of a number -/
def stN (k : Int) : Nat := k.natAbs - 1
/-- a list of numbers of the states of a machine -/
def GW (m : Mch) (g : Wd) : Prop := ∀ k ∈ g, k ≠ 0 ∧ -(m.s : Int) ≤ k ∧ k ≤ m.s
theorem stN_lt {m : Mch} {k : Int} (h : k ≠ 0 ∧ -(m.s : Int) ≤ k ∧ k ≤ m.s) : stN k < m.s := by
  simp only [stN]; omega
theorem GW.nil (m : Mch) : GW m [] := fun k h => by cases h
theorem GW.append {m : Mch} {g h : Wd} (hg : GW m g) (hh : GW m h) : GW m (g ++ h) := fun k hk => (List.mem_append.1 hk).elim (hg k) (hh k)
theorem GW.snoc {m : Mch} {g : Wd} (hg : GW m g) {k : Int} (hk : k ≠ 0 ∧ -(m.s : Int) ≤ k ∧ k ≤ m.s) : GW m (g ++ [k]) := hg.append fun x hx => by rw [List.mem_singleton.1 hx]; exact hk
theorem GW.sub {m : Mch} {g h : Wd} (hg : GW m g) (hs : ∀ k ∈ h, k ∈ g) : GW m h := fun k hk => hg k (hs k hk)
theorem GW.at {m : Mch} {g : Wd} (hg : GW m g) {i : Nat} (hi : i < g.length) : g[i]?.getD 0 ≠ 0 ∧ -(m.s : Int) ≤ g[i]?.getD 0 ∧ g[i]?.getD 0 ≤ m.s := by
  rw [List.getElem?_eq_getElem hi]; exact hg _ (List.getElem_mem hi)

/-! the inverse machine -/
/-- the letter that a state leads to y -/
def invX (m : Mch) (q y : Nat) : Nat := ((List.range m.l).find? fun x => m.on q x == y).getD 0
def invM (m : Mch) : Mch := ⟨m.L, m.S, (List.range 48).map fun i => if i / 3 < m.s ∧ i % 3 < m.l then m.n (i / 3) (invX m (i / 3) (i % 3)) else 0,
  (List.range 48).map fun i => if i / 3 < m.s ∧ i % 3 < m.l then ((invX m (i / 3) (i % 3) : Nat) : Int) else 0⟩

/-! normal words -/
def nkey (m : Mch) (k : Int) : Int := if k < 0 then -((m.tbl.fin (stN k) : Int) + 1) else (m.tbl.fin (stN k) : Int) + 1
def nstep (m : Mch) (out : Wd) (k : Int) : Wd :=
  if trivB m (stN k) = true then out else if out.getLast? = some (-(nkey m k)) then out.dropLast else out ++ [nkey m k]
def nrm (m : Mch) (g : Wd) : Wd := g.foldl (nstep m) []
theorem nrm_snoc (m : Mch) (g : Wd) (k : Int) : nrm m (g ++ [k]) = nstep m (nrm m g) k := by simp [nrm]
theorem take_snocI {g : Wd} {i : Nat} (h : i < g.length) : g.take (i + 1) = g.take i ++ [g[i]?.getD 0] := by
  rw [List.take_succ_eq_append_getElem h, List.getElem?_eq_getElem h]; rfl
theorem nkey_ok {m : Mch} {k : Int} (h : k ≠ 0 ∧ -(m.s : Int) ≤ k ∧ k ≤ m.s) : nkey m k ≠ 0 ∧ -(m.s : Int) ≤ nkey m k ∧ nkey m k ≤ m.s := by
  have h1 := stN_lt h
  have h2 := m.tbl.fin_le (stN k)
  simp only [nkey]
  split <;> omega
theorem nstep_len (m : Mch) (out : Wd) (k : Int) : (nstep m out k).length ≤ out.length + 1 := by
  simp only [nstep]
  split
  · omega
  · split
    · simp; omega
    · simp
theorem foldl_len (m : Mch) : ∀ (g out : Wd), (g.foldl (nstep m) out).length ≤ out.length + g.length
  | [], out => by simp
  | k :: g, out => by
    have := foldl_len m g (nstep m out k)
    have := nstep_len m out k
    simp only [List.foldl_cons, List.length_cons]; omega
theorem nrm_len (m : Mch) (g : Wd) : (nrm m g).length ≤ g.length := by have := foldl_len m g []; simpa [nrm] using this
theorem nstep_gw {m : Mch} {out : Wd} (ho : GW m out) {k : Int} (h : k ≠ 0 ∧ -(m.s : Int) ≤ k ∧ k ≤ m.s) : GW m (nstep m out k) := by
  simp only [nstep]
  split
  · exact ho
  · split
    · exact ho.sub fun x hx => (List.dropLast_sublist _).subset hx
    · exact ho.snoc (nkey_ok h)
theorem foldl_gw {m : Mch} : ∀ (g out : Wd), GW m g → GW m out → GW m (g.foldl (nstep m) out)
  | [], out, _, ho => ho
  | k :: g, out, hg, ho => foldl_gw g _ (fun x hx => hg x (List.mem_cons_of_mem _ hx)) (nstep_gw ho (hg k (List.mem_cons_self ..)))
theorem nrm_gw {m : Mch} {g : Wd} (hg : GW m g) : GW m (nrm m g) := foldl_gw g [] hg (GW.nil m)

/-! images and sections -/
def stpX (m : Mch) (k : Int) (x : Nat) : Nat := if 0 < k then m.on (stN k) x else invX m (stN k) x
def stpK (m : Mch) (k : Int) (x : Nat) : Int := if 0 < k then (m.nn (stN k) x : Int) + 1 else -(m.nn (stN k) (invX m (stN k) x) : Int) - 1
def ledX (m : Mch) : Wd → Nat → Nat
  | [], x => x
  | k :: t, x => ledX m t (stpX m k x)
def ledS (m : Mch) : Wd → Nat → Wd
  | [], _ => []
  | k :: t, x => stpK m k x :: ledS m t (stpX m k x)
theorem ledX_append (m : Mch) : ∀ (g h : Wd) (x : Nat), ledX m (g ++ h) x = ledX m h (ledX m g x)
  | [], _, _ => rfl
  | k :: g, h, x => by simp only [List.cons_append, ledX, ledX_append m g h]
theorem ledS_append (m : Mch) : ∀ (g h : Wd) (x : Nat), ledS m (g ++ h) x = ledS m g x ++ ledS m h (ledX m g x)
  | [], _, _ => rfl
  | k :: g, h, x => by simp only [List.cons_append, ledX, ledS, ledS_append m g h]
theorem ledS_len (m : Mch) : ∀ (g : Wd) (x : Nat), (ledS m g x).length = g.length
  | [], _ => rfl
  | k :: g, x => by simp only [ledS, List.length_cons, ledS_len m g]
theorem invM_get {m : Mch} {q x : Nat} (hq : q < 16) (hx : x < 3) : (invM m).n q x = (if q < m.s ∧ x < m.l then m.n q (invX m q x) else 0) ∧ (invM m).o q x = if q < m.s ∧ x < m.l then (invX m q x : Int) else 0 := by
  have hi : q * 3 + x < 48 := by omega
  have e1 : (q * 3 + x) / 3 = q := by omega
  have e2 : (q * 3 + x) % 3 = x := by omega
  simp only [Mch.n, Mch.o, invM, List.getElem?_map, List.getElem?_range hi, Option.map_some, Option.getD_some, e1, e2, and_self]
theorem invM_s (m : Mch) : (invM m).s = m.s := rfl
theorem invM_l (m : Mch) : (invM m).l = m.l := rfl
theorem invM_nn {m : Mch} (hok : m.Ok) {q x : Nat} (hq : q < m.s) (hx : x < m.l) : (invM m).nn q x = m.nn q (invX m q x) := by
  have := hok.s_le
  have := hok.l_le
  rw [Mch.nn, (invM_get (by omega) (by omega)).1, if_pos ⟨hq, hx⟩]; rfl
theorem invM_on {m : Mch} (hok : m.Ok) {q x : Nat} (hq : q < m.s) (hx : x < m.l) : (invM m).on q x = invX m q x := by
  have := hok.s_le
  have := hok.l_le
  rw [Mch.on, (invM_get (by omega) (by omega)).2, if_pos ⟨hq, hx⟩]; rfl
section
variable {m : Mch} (hok : m.Ok) (hwf : m.Wf)
include hok hwf
theorem on_surj {q y : Nat} (hq : q < m.s) (hy : y < m.l) : ∃ x, x < m.l ∧ m.on q x = y := by
  have h2 := hok.l_ge
  have h3 := hok.l_le
  have a0 := hok.on_lt hwf hq (show 0 < m.l by omega)
  have a1 := hok.on_lt hwf hq (show 1 < m.l by omega)
  have i01 := hok.on_inj hwf hq (show 0 < m.l by omega) (show 1 < m.l by omega)
  by_cases e0 : m.on q 0 = y
  · exact ⟨0, by omega, e0⟩
  by_cases e1 : m.on q 1 = y
  · exact ⟨1, by omega, e1⟩
  by_cases c : m.l = 3
  · have a2 := hok.on_lt hwf hq (show 2 < m.l by omega)
    have i02 := hok.on_inj hwf hq (show 0 < m.l by omega) (show 2 < m.l by omega)
    have i12 := hok.on_inj hwf hq (show 1 < m.l by omega) (show 2 < m.l by omega)
    exact ⟨2, by omega, by omega⟩
  · omega
theorem invX_spec {q y : Nat} (hq : q < m.s) (hy : y < m.l) : invX m q y < m.l ∧ m.on q (invX m q y) = y := by
  obtain ⟨x, hx, e⟩ := on_surj hok hwf hq hy
  cases hf : (List.range m.l).find? fun x => m.on q x == y with
  | none =>
    rw [List.find?_eq_none] at hf
    have := hf x (by simpa using hx)
    simp [e] at this
  | some z =>
    have h1 := List.find?_some hf
    have h2 := List.mem_of_find?_eq_some hf
    simp only [invX, hf, Option.getD_some]
    exact ⟨by simpa using h2, by simpa using h1⟩
theorem invX_of {q x : Nat} (hq : q < m.s) (hx : x < m.l) : invX m q (m.on q x) = x := by
  obtain ⟨h1, h2⟩ := invX_spec hok hwf hq (hok.on_lt hwf hq hx)
  exact hok.on_inj hwf hq h1 hx h2
theorem stpX_lt {k : Int} (h : k ≠ 0 ∧ -(m.s : Int) ≤ k ∧ k ≤ m.s) {x : Nat} (hx : x < m.l) : stpX m k x < m.l := by
  simp only [stpX]
  split
  · exact hok.on_lt hwf (stN_lt h) hx
  · exact (invX_spec hok hwf (stN_lt h) hx).1
theorem stpK_ok {k : Int} (h : k ≠ 0 ∧ -(m.s : Int) ≤ k ∧ k ≤ m.s) {x : Nat} (hx : x < m.l) : stpK m k x ≠ 0 ∧ -(m.s : Int) ≤ stpK m k x ∧ stpK m k x ≤ m.s := by
  have h1 := hok.nn_lt hwf (stN_lt h) hx
  have h2 := hok.nn_lt hwf (stN_lt h) (invX_spec hok hwf (stN_lt h) hx).1
  simp only [stpK]
  split <;> omega
theorem ledX_lt : ∀ {g : Wd}, GW m g → ∀ {x : Nat}, x < m.l → ledX m g x < m.l
  | [], _, x, hx => hx
  | k :: g, hg, x, hx => ledX_lt (g := g) (fun y hy => hg y (List.mem_cons_of_mem _ hy)) (stpX_lt hok hwf (hg k (List.mem_cons_self ..)) hx)
theorem ledS_gw : ∀ {g : Wd}, GW m g → ∀ {x : Nat}, x < m.l → GW m (ledS m g x)
  | [], _, x, hx => GW.nil m
  | k :: g, hg, x, hx => fun y hy => by
    simp only [ledS, List.mem_cons] at hy
    rcases hy with rfl | hy
    · exact stpK_ok hok hwf (hg k (List.mem_cons_self ..)) hx
    · exact ledS_gw (g := g) (fun y hy => hg y (List.mem_cons_of_mem _ hy)) (stpX_lt hok hwf (hg k (List.mem_cons_self ..)) hx) y hy
/-! the inverse machine is a machine -/
theorem invM_wf : (invM m).Wf := by
  have h3 := hok.l_le
  refine ⟨by simp [invM], by simp [invM], fun i => ?_, fun i => ?_, hwf.lb, hwf.sb⟩
  · by_cases hi : i < 48
    · simp only [invM, List.getElem?_map, List.getElem?_range hi, Option.map_some, Option.getD_some]
      split
      · exact hwf.nb _
      · omega
    · simp [invM, hi]
  · by_cases hi : i < 48
    · simp only [invM, List.getElem?_map, List.getElem?_range hi, Option.map_some, Option.getD_some]
      split
      · rename_i h
        have := (invX_spec hok hwf h.1 h.2).1
        omega
      · omega
    · simp [invM, hi]
theorem invM_ok : (invM m).Ok := by
  have hS := hok.S_eq
  have hL := hok.L_eq
  have h16 := hok.s_le
  have h3 := hok.l_le
  have S' : (invM m).S = m.s := hS
  have L' : (invM m).L = m.l := hL
  have hget : ∀ q x : Nat, (q : Int) < (invM m).S → (x : Int) < (invM m).L → (invM m).n q x = m.n q (invX m q x) ∧ (invM m).o q x = (invX m q x : Int) ∧ q < m.s ∧ x < m.l := fun q x hq hx => by
    rw [S'] at hq
    rw [L'] at hx
    have h1 := invM_get (m := m) (show q < 16 by omega) (show x < 3 by omega)
    rw [if_pos ⟨by omega, by omega⟩, if_pos ⟨by omega, by omega⟩] at h1
    exact ⟨h1.1, h1.2, by omega, by omega⟩
  refine ⟨hok.l2, hok.l3, hok.s1, hok.s16, fun q x hq hx => ?_, fun q x hq hx => ?_, fun q x y hq hx hy e => ?_⟩
  · obtain ⟨h1, h2, h4, h5⟩ := hget q x hq hx
    have h6 := invX_spec hok hwf h4 h5
    rw [h1]
    exact hok.nx q _ (by rw [hS]; omega) (by rw [hL]; omega)
  · obtain ⟨h1, h2, h4, h5⟩ := hget q x hq hx
    have h6 := invX_spec hok hwf h4 h5
    rw [h2, L']; omega
  · obtain ⟨h1, h2, h4, h5⟩ := hget q x hq hx
    obtain ⟨g1, g2, g4, g5⟩ := hget q y hq hy
    rw [h2, g2] at e
    have a := (invX_spec hok hwf h4 h5).2
    have b := (invX_spec hok hwf g4 g5).2
    rw [← a, ← b]
    congr 1
    omega
end
/-- a word leads all letters to themselves -/
def leavesB (m : Mch) (g : Wd) : Bool := (List.range m.l).all fun x => ledX m g x == x

/-! the search through the sections -/
def qPut (Q : List Wd) (s : Wd) : Option (List Wd × Nat) := if s ∈ Q then some (Q, Q.idxOf s) else if Q.length = 200 then none else some (Q ++ [s], Q.length)
/-- the sections of h at the first letters are put in -/
def qRow (m : Mch) (h : Wd) : Nat → List Wd → Option (List Wd × List Nat)
  | 0, Q => some (Q, [])
  | x + 1, Q => match qRow m h x Q with
    | none => none
    | some (Q', r) => match qPut Q' (nrm m (ledS m h x)) with
      | none => none
      | some (Q'', a) => some (Q'', r ++ [a])
/-- the first words of the queue are done; a code, if it has ended early -/
def bSt (m : Mch) (want : Wd → Bool) (g : Wd) : Nat → Except Int (List Wd × List (List Nat))
  | 0 => .ok ([nrm m g], [])
  | i + 1 => match bSt m want g i with
    | .error c => .error c
    | .ok (Q, N) => if i < Q.length then (if want (Q[i]?.getD []) = true then (match qRow m (Q[i]?.getD []) m.l Q with
        | none => .error 3
        | some (Q', r) => .ok (Q', N ++ [r])) else .error 5) else .ok (Q, N)
def secR (m : Mch) (want : Wd → Bool) (g : Wd) : Except Int (List Wd × List (List Nat)) := bSt m want g 200
theorem bSt_err {m : Mch} {want : Wd → Bool} {g : Wd} {i : Nat} {c : Int} (h : bSt m want g i = .error c) : ∀ j, bSt m want g (i + j) = .error c
  | 0 => h
  | j + 1 => by rw [← Nat.add_assoc, bSt, bSt_err h j]
theorem secR_err {m : Mch} {want : Wd → Bool} {g : Wd} {i : Nat} {c : Int} (h : bSt m want g i = .error c) (hi : i ≤ 200) : secR m want g = .error c := by
  have := bSt_err h (200 - i)
  rwa [show i + (200 - i) = 200 by omega] at this
theorem bSt_end {m : Mch} {want : Wd → Bool} {g : Wd} {i : Nat} {Q : List Wd} {N : List (List Nat)} (h : bSt m want g i = .ok (Q, N)) (hi : Q.length ≤ i) : ∀ j, bSt m want g (i + j) = .ok (Q, N)
  | 0 => h
  | j + 1 => by rw [← Nat.add_assoc, bSt, bSt_end h hi j]; simp only; rw [if_neg (by omega)]
theorem secR_end {m : Mch} {want : Wd → Bool} {g : Wd} {i : Nat} {Q : List Wd} {N : List (List Nat)} (h : bSt m want g i = .ok (Q, N)) (hi : Q.length ≤ i) (h200 : i ≤ 200) : secR m want g = .ok (Q, N) := by
  have := bSt_end h hi (200 - i)
  rwa [show i + (200 - i) = 200 by omega] at this
/-- what holds of the queue -/
structure QOk (m : Mch) (n : Nat) (Q : List Wd) : Prop where
  nodup : Q.Nodup
  gw : ∀ h ∈ Q, GW m h
  len : ∀ h ∈ Q, h.length ≤ n
  many : Q.length ≤ 200
theorem QOk.one {m : Mch} {g : Wd} (hg : GW m g) : QOk m g.length [nrm m g] :=
  ⟨by simp, fun h hh => by rw [List.mem_singleton.1 hh]; exact nrm_gw hg, fun h hh => by rw [List.mem_singleton.1 hh]; exact nrm_len m g, by simp⟩
theorem QOk.at {m : Mch} {n : Nat} {Q : List Wd} (h : QOk m n Q) {i : Nat} (hi : i < Q.length) : GW m (Q[i]?.getD []) ∧ (Q[i]?.getD []).length ≤ n := by
  rw [List.getElem?_eq_getElem hi]
  exact ⟨h.gw _ (List.getElem_mem hi), h.len _ (List.getElem_mem hi)⟩
theorem QOk.put {m : Mch} {n : Nat} {Q Q' : List Wd} {s : Wd} {a : Nat} (h : QOk m n Q) (hs : GW m s) (hl : s.length ≤ n) (hp : qPut Q s = some (Q', a)) : QOk m n Q' ∧ a < Q'.length ∧ Q.length ≤ Q'.length ∧ ∀ i, i < Q.length → Q'[i]? = Q[i]? := by
  simp only [qPut] at hp
  split at hp
  · rename_i hm
    injection hp with hp
    injection hp with h1 h2
    subst h1 h2
    exact ⟨h, List.idxOf_lt_length_iff.2 hm, Nat.le_refl _, fun _ _ => rfl⟩
  · rename_i hm
    split at hp
    · cases hp
    · rename_i hn
      injection hp with hp
      injection hp with h1 h2
      subst h1 h2
      have := h.many
      refine ⟨⟨?_, ?_, ?_, by simp; omega⟩, by simp, by simp, fun i hi => List.getElem?_append_left hi⟩
      · rw [List.nodup_append]
        exact ⟨h.nodup, by simp, fun a ha b hb => by rw [List.mem_singleton.1 hb]; intro e; subst e; exact hm ha⟩
      · intro x hx
        rcases List.mem_append.1 hx with hx | hx
        · exact h.gw x hx
        · rw [List.mem_singleton.1 hx]; exact hs
      · intro x hx
        rcases List.mem_append.1 hx with hx | hx
        · exact h.len x hx
        · rw [List.mem_singleton.1 hx]; exact hl
theorem QOk.row {m : Mch} (hok : m.Ok) (hwf : m.Wf) {n : Nat} {h : Wd} (hh : GW m h) (hl : h.length ≤ n) : ∀ {x : Nat}, x ≤ m.l → ∀ {Q Q' : List Wd} {r : List Nat}, QOk m n Q → qRow m h x Q = some (Q', r) →
    QOk m n Q' ∧ r.length = x ∧ (∀ a ∈ r, a < Q'.length) ∧ Q.length ≤ Q'.length ∧ ∀ i, i < Q.length → Q'[i]? = Q[i]?
  | 0, _, Q, Q', r, hQ, hr => by
    injection hr with hr
    injection hr with h1 h2
    subst h1 h2
    exact ⟨hQ, rfl, fun a ha => (by cases ha), Nat.le_refl _, fun _ _ => rfl⟩
  | x + 1, hx, Q, Q', r, hQ, hr => by
    simp only [qRow] at hr
    cases h1 : qRow m h x Q with
    | none => rw [h1] at hr; cases hr
    | some p =>
      obtain ⟨Q1, r1⟩ := p
      rw [h1] at hr
      simp only at hr
      obtain ⟨a1, a2, a3, a4, a5⟩ := QOk.row hok hwf hh hl (x := x) (by omega) hQ h1
      cases h2 : qPut Q1 (nrm m (ledS m h x)) with
      | none => rw [h2] at hr; cases hr
      | some p =>
        obtain ⟨Q2, a⟩ := p
        rw [h2] at hr
        injection hr with hr
        injection hr with e1 e2
        subst e1 e2
        have hs := ledS_gw hok hwf hh (x := x) (by omega)
        have hsl := nrm_len m (ledS m h x)
        rw [ledS_len] at hsl
        obtain ⟨b1, b2, b3, b4⟩ := a1.put (nrm_gw hs) (by omega) h2
        refine ⟨b1, by simp [a2], fun c hc => ?_, by omega, fun i hi => (b4 i (by omega)).trans (a5 i hi)⟩
        rcases List.mem_append.1 hc with hc | hc
        · have := a3 c hc; omega
        · rw [List.mem_singleton.1 hc]; exact b2
/-- what holds when the first words are done -/
structure BOk (m : Mch) (n : Nat) (Q : List Wd) (N : List (List Nat)) : Prop extends QOk m n Q where
  rows : N.length ≤ Q.length
  row : ∀ r ∈ N, r.length = m.l ∧ ∀ a ∈ r, a < Q.length
  pos : 1 ≤ Q.length
theorem bSt_ok {m : Mch} (hok : m.Ok) (hwf : m.Wf) (want : Wd → Bool) {g : Wd} (hg : GW m g) : ∀ (i : Nat) {Q : List Wd} {N : List (List Nat)}, bSt m want g i = .ok (Q, N) → BOk m g.length Q N ∧ (i ≤ Q.length → N.length = i) ∧ N.length ≤ i
  | 0, Q, N, h => by
    injection h with h
    injection h with h1 h2
    subst h1 h2
    exact ⟨⟨QOk.one hg, by simp, fun r hr => (by cases hr), by simp⟩, fun _ => rfl, Nat.le_refl _⟩
  | i + 1, Q, N, h => by
    rw [bSt] at h
    cases h1 : bSt m want g i with
    | error c => rw [h1] at h; cases h
    | ok p =>
      obtain ⟨Q1, N1⟩ := p
      obtain ⟨a1, a2, a3⟩ := bSt_ok hok hwf want hg i h1
      rw [h1] at h
      simp only at h
      split at h
      · rename_i hi
        split at h
        · cases h2 : qRow m (Q1[i]?.getD []) m.l Q1 with
          | none => rw [h2] at h; cases h
          | some p =>
            obtain ⟨Q2, r⟩ := p
            rw [h2] at h
            injection h with h
            injection h with e1 e2
            subst e1 e2
            have hq := a1.toQOk.at hi
            obtain ⟨b1, b2, b3, b4, b5⟩ := QOk.row hok hwf hq.1 hq.2 (Nat.le_refl _) a1.toQOk h2
            have a4 := a2 (by omega)
            refine ⟨⟨b1, by simp; omega, fun s hs => ?_, by have := a1.pos; omega⟩, fun _ => by simp; omega, by simp; omega⟩
            rcases List.mem_append.1 hs with hs | hs
            · exact ⟨(a1.row s hs).1, fun a ha => by have := (a1.row s hs).2 a ha; omega⟩
            · rw [List.mem_singleton.1 hs]; exact ⟨b2, b3⟩
        · cases h
      · injection h with h
        injection h with e1 e2
        subst e1 e2
        exact ⟨a1, fun hh => by omega, by omega⟩
def trvOf : Except Int (List Wd × List (List Nat)) → Bool × Int
  | .ok _ => (true, 0)
  | .error c => (false, if c = 5 then 0 else 3)
/-- whether a word is trivial, and the code -/
def trvR (m : Mch) (g : Wd) : Bool × Int := trvOf (secR m (leavesB m) g)
end Go.Proofs.Yteagecoiijhflaa

/- Cycles of letters and returns, plain. -/
namespace Go.Proofs.Yteagecoiijhflaa
open Go.RowKit
set_option linter.unusedVariables false

/-- a letter, led so many times -/
def itX (m : Mch) (g : Wd) (x : Nat) : Nat → Nat
  | 0 => x
  | i + 1 => ledX m g (itX m g x i)
def cycN (m : Mch) (g : Wd) (x : Nat) : Nat := if ledX m g x = x then 1 else if ledX m g (ledX m g x) = x then 2 else 3
/-- the first letters of a cycle -/
def cycL (m : Mch) (g : Wd) (x : Nat) (i : Nat) : List Nat := (List.range i).map (itX m g x)
def repW (g : Wd) : Nat → Wd
  | 0 => []
  | k + 1 => repW g k ++ g

theorem cycL_len (m : Mch) (g : Wd) (x i : Nat) : (cycL m g x i).length = i := by simp [cycL]
theorem cycL_snoc (m : Mch) (g : Wd) (x i : Nat) : cycL m g x (i + 1) = cycL m g x i ++ [itX m g x i] := by
  simp [cycL, List.range_succ]
theorem cycL_get (m : Mch) (g : Wd) (x : Nat) {i n : Nat} (h : i < n) : (cycL m g x n)[i]?.getD 0 = itX m g x i := by
  simp [cycL, List.getElem?_map, List.getElem?_range h]
theorem cycN_le (m : Mch) (g : Wd) (x : Nat) : 1 ≤ cycN m g x ∧ cycN m g x ≤ 3 := by
  simp only [cycN]; split
  · omega
  · split <;> omega
theorem repW_len (g : Wd) : ∀ k, (repW g k).length = k * g.length
  | 0 => by simp [repW]
  | k + 1 => by rw [repW, List.length_append, repW_len g k, Nat.add_mul, Nat.one_mul]
theorem repW_gw {m : Mch} {g : Wd} (hg : GW m g) : ∀ k, GW m (repW g k)
  | 0 => GW.nil m
  | k + 1 => (repW_gw hg k).append hg
theorem ledX_rep (m : Mch) (g : Wd) (x : Nat) : ∀ k, ledX m (repW g k) x = itX m g x k
  | 0 => rfl
  | k + 1 => by rw [repW, ledX_append, ledX_rep m g x k]; rfl
theorem ledS_rep (m : Mch) (g : Wd) (x k : Nat) : ledS m (repW g (k + 1)) x = ledS m (repW g k) x ++ ledS m g (itX m g x k) := by
  rw [repW, ledS_append, ledX_rep]
theorem repW_get (g : Wd) : ∀ (k i : Nat), i < k * g.length → (repW g k)[i]? = g[i % g.length]?
  | 0, i, h => by omega
  | k + 1, i, h => by
    have hl := repW_len g k
    rw [repW]
    by_cases c : i < k * g.length
    · rw [List.getElem?_append_left (by omega), repW_get g k i c]
    · rw [List.getElem?_append_right (by omega), hl]
      have e : i % g.length = i - k * g.length := by
        rw [Nat.add_mul, Nat.one_mul] at h
        have h2 : i = (i - k * g.length) + k * g.length := by omega
        rw [h2, Nat.add_mul_mod_self_right, Nat.mod_eq_of_lt (by omega)]
        omega
      rw [e]
section
variable {m : Mch} (hok : m.Ok) (hwf : m.Wf)
include hok hwf
theorem stpX_inj {k : Int} (h : k ≠ 0 ∧ -(m.s : Int) ≤ k ∧ k ≤ m.s) {x y : Nat} (hx : x < m.l) (hy : y < m.l) (e : stpX m k x = stpX m k y) : x = y := by
  simp only [stpX] at e
  split at e
  · exact hok.on_inj hwf (stN_lt h) hx hy e
  · have a := (invX_spec hok hwf (stN_lt h) hx).2
    have b := (invX_spec hok hwf (stN_lt h) hy).2
    rw [← a, ← b, e]
theorem ledX_inj : ∀ {g : Wd}, GW m g → ∀ {x y : Nat}, x < m.l → y < m.l → ledX m g x = ledX m g y → x = y
  | [], _, x, y, hx, hy, e => e
  | k :: g, hg, x, y, hx, hy, e =>
    stpX_inj hok hwf (hg k (List.mem_cons_self ..)) hx hy
      (ledX_inj (g := g) (fun z hz => hg z (List.mem_cons_of_mem _ hz)) (stpX_lt hok hwf (hg k (List.mem_cons_self ..)) hx) (stpX_lt hok hwf (hg k (List.mem_cons_self ..)) hy) e)
theorem itX_lt {g : Wd} (hg : GW m g) {x : Nat} (hx : x < m.l) : ∀ i, itX m g x i < m.l
  | 0 => hx
  | i + 1 => ledX_lt hok hwf hg (itX_lt hg hx i)
theorem itX_cyc {g : Wd} (hg : GW m g) {x : Nat} (hx : x < m.l) : itX m g x (cycN m g x) = x := by
  have h3 := hok.l_le
  simp only [cycN]
  split
  · rename_i c; exact c
  · rename_i c1
    split
    · rename_i c2; exact c2
    · rename_i c2
      show ledX m g (ledX m g (ledX m g x)) = x
      have a1 := ledX_lt hok hwf hg hx
      have a2 := ledX_lt hok hwf hg a1
      have a3 := ledX_lt hok hwf hg a2
      have i1 : ledX m g (ledX m g x) ≠ ledX m g x := fun e => c1 (ledX_inj hok hwf hg a1 hx e)
      have i2 : ledX m g (ledX m g (ledX m g x)) ≠ ledX m g (ledX m g x) := fun e => i1 (ledX_inj hok hwf hg a2 a1 e)
      have i3 : ledX m g (ledX m g (ledX m g x)) ≠ ledX m g x := fun e => c2 (ledX_inj hok hwf hg a2 hx e)
      omega
omit hok hwf in
theorem itX_ne {g : Wd} {x i : Nat} (h0 : 0 < i) (h : i < cycN m g x) : itX m g x i ≠ x := by
  simp only [cycN] at h
  split at h
  · omega
  · rename_i c1
    split at h
    · have : i = 1 := by omega
      subst this; exact c1
    · rename_i c2
      have : i = 1 ∨ i = 2 := by omega
      rcases this with rfl | rfl
      · exact c1
      · exact c2
end
/-- the copies as far as they are made -/
def repP (g : Wd) (k n : Nat) : Wd := (repW g k).take n ++ List.replicate (k * g.length - n) 0
theorem repP_len (g : Wd) (k n : Nat) (h : n ≤ k * g.length) : (repP g k n).length = k * g.length := by
  simp [repP, repW_len]; omega
theorem repP_zero (g : Wd) (k : Nat) : repP g k 0 = List.replicate (k * g.length) 0 := by simp [repP]
theorem repP_all (g : Wd) (k : Nat) : repP g k (k * g.length) = repW g k := by
  simp only [repP, Nat.sub_self, List.replicate_zero, List.append_nil]
  rw [← repW_len g k, List.take_length]
theorem repW_take (g : Wd) (k : Nat) (hk : 1 ≤ k) : (repW g k).take g.length = g := by
  have h1 : g.length ≤ k * g.length := Nat.le_mul_of_pos_left _ hk
  apply List.ext_getElem?
  intro i
  rw [List.getElem?_take]
  split
  · rename_i h
    rw [repW_get g k i (by omega), Nat.mod_eq_of_lt h]
  · rename_i h
    rw [List.getElem?_eq_none (by omega)]
theorem repW_shift (g : Wd) (k j q : Nat) (h : j * g.length + q ≤ k * g.length) : ((repW g k).drop (j * g.length)).take q = (repW g k).take q := by
  apply List.ext_getElem?
  intro i
  rw [List.getElem?_take, List.getElem?_take, List.getElem?_drop]
  split
  · rw [repW_get g k _ (by omega), repW_get g k i (by omega), Nat.add_comm, Nat.add_mul_mod_self_right]
  · rfl
theorem repP_put (g : Wd) (k j q : Nat) (h : j * g.length + q ≤ k * g.length) :
    (repP g k (j * g.length)).take (j * g.length) ++ ((repW g k).take q ++ (repP g k (j * g.length)).drop (j * g.length + q)) = repP g k (j * g.length + q) := by
  have hl := repW_len g k
  have h1 : ((repW g k).take (j * g.length)).length = j * g.length := by rw [List.length_take]; omega
  simp only [repP]
  rw [List.take_append_of_le_length (by omega), List.take_take, Nat.min_self, List.drop_append, h1, List.drop_eq_nil_of_le (by omega), List.nil_append, List.drop_replicate,
    ← List.append_assoc, ← repW_shift g k j q h, ← List.take_add]
  congr 2
  omega
/-- the return of a letter, if it is not too long -/
def retR (m : Mch) (g : Wd) (x : Nat) : Option (Wd × Nat) :=
  if 40 < cycN m g x * g.length then none else some (nrm m (ledS m (repW g (cycN m g x)) x), cycN m g x)
end Go.Proofs.Yteagecoiijhflaa

/- The search for an order, plain. -/
namespace Go.Proofs.Yteagecoiijhflaa
open Go.RowKit
set_option linter.unusedVariables false
set_option linter.unusedSimpArgs false

/-- a path: its words but for the last one, each with the letter and the count by which one goes on -/
abbrev Pth := List (Wd × Nat × Nat)
inductive Ores where
  | ok (n : Nat)
  | inf (ls : List Nat) (f : Nat)
  | lim
def pthF (P : Pth) : Nat := (P.map fun p => p.2.2).foldl (· * ·) 1
/-- what the cycle of a letter counts -/
def ordC (m : Mch) (sub : Option (Pth → Wd → Ores)) (P : Pth) (g : Wd) (x : Nat) : Ores := match retR m g x with
  | none => .lim
  | some (r, k) =>
    if r ∈ (P ++ [(g, x, k)]).map (·.1) then
      (if 1 < pthF ((P ++ [(g, x, k)]).drop (((P ++ [(g, x, k)]).map (·.1)).idxOf r)) then
        .inf (((P ++ [(g, x, k)]).drop (((P ++ [(g, x, k)]).map (·.1)).idxOf r)).map (·.2.1)) (pthF ((P ++ [(g, x, k)]).drop (((P ++ [(g, x, k)]).map (·.1)).idxOf r)))
      else .ok k)
    else match sub with
      | none => .lim
      | some s => match s (P ++ [(g, x, k)]) r with
        | .ok n => if 1000000000000 < k * n then .lim else .ok (k * n)
        | e => e
/-- the order as far as the letters are done, and the letters that are done -/
inductive Opart where
  | go (n : Nat) (seen : List Nat)
  | stop (e : Ores)
def ordL (m : Mch) (c : Nat → Ores) (g : Wd) : Nat → Opart
  | 0 => .go 1 []
  | i + 1 => match ordL m c g i with
    | .stop e => .stop e
    | .go n seen => if i ∈ seen then .go n seen else match c i with
      | .ok k => if 1000000000000 / k < n / Nat.gcd n k then .stop .lim else .go (n / Nat.gcd n k * k) (seen ++ cycL m g i (cycN m g i))
      | e => .stop e
def Opart.fin : Opart → Ores
  | .go n _ => .ok n
  | .stop e => e
/-- the order of a word behind a path, if so many further words may come -/
def ordS (m : Mch) : Nat → Pth → Wd → Ores
  | 0, P, g => if g = [] then .ok 1 else (ordL m (ordC m none P g) g m.l).fin
  | n + 1, P, g => if g = [] then .ok 1 else (ordL m (ordC m (some (ordS m n)) P g) g m.l).fin
/-- the order of a group word -/
def ordW (m : Mch) (g : Wd) : Ores := ordS m 11 [] (nrm m g)

def Ores.Ok : Ores → Prop
  | .ok n => 1 ≤ n ∧ n ≤ 1000000000000
  | .inf ls f => ls.length ≤ 12 ∧ 1 < f ∧ f ≤ 531441
  | .lim => True
def POk (P : Pth) : Prop := ∀ p ∈ P, 1 ≤ p.2.2 ∧ p.2.2 ≤ 3
theorem foldl_mul (l : List Nat) : ∀ a, l.foldl (· * ·) a = a * l.foldl (· * ·) 1 := by
  induction l with
  | nil => intro a; simp
  | cons x l ih => intro a; simp only [List.foldl_cons]; rw [ih (a * x), ih (1 * x), Nat.one_mul, Nat.mul_assoc]
theorem pthF_cons (p : Wd × Nat × Nat) (P : Pth) : pthF (p :: P) = p.2.2 * pthF P := by
  simp only [pthF, List.map_cons, List.foldl_cons]; rw [foldl_mul, Nat.one_mul]
theorem pthF_bound : ∀ {P : Pth}, POk P → 1 ≤ pthF P ∧ pthF P ≤ 3 ^ P.length
  | [], _ => by simp [pthF]
  | p :: P, h => by
    obtain ⟨h1, h2⟩ := pthF_bound (P := P) fun q hq => h q (List.mem_cons_of_mem _ hq)
    obtain ⟨h3, h4⟩ := h p (List.mem_cons_self ..)
    rw [pthF_cons, List.length_cons, Nat.pow_succ, Nat.mul_comm (3 ^ P.length)]
    exact ⟨Nat.le_trans h3 (Nat.le_mul_of_pos_right _ h1), Nat.mul_le_mul h4 h2⟩
theorem pthF_last : ∀ {P : Pth} {p : Wd × Nat × Nat}, POk P → p ∈ P → p.2.2 ≤ pthF P
  | q :: P, p, h, hp => by
    have hP : POk P := fun q hq => h q (List.mem_cons_of_mem _ hq)
    rw [pthF_cons]
    rcases List.mem_cons.1 hp with rfl | hp
    · exact Nat.le_mul_of_pos_right _ (pthF_bound hP).1
    · exact Nat.le_trans (pthF_last hP hp) (Nat.le_mul_of_pos_left _ (h q (List.mem_cons_self ..)).1)
theorem retR_count {m : Mch} {g r : Wd} {x k : Nat} (h : retR m g x = some (r, k)) : 1 ≤ k ∧ k ≤ 3 := by
  simp only [retR] at h
  split at h
  · cases h
  · injection h with h; injection h with h1 h2; subst h2; exact cycN_le m g x
theorem ordC_ok {m : Mch} {sub : Option (Pth → Wd → Ores)} {P : Pth} {g : Wd} {x : Nat} (hP : POk P) (hl : P.length ≤ 11)
    (hs : ∀ s, sub = some s → ∀ Q r, POk Q → Q.length = P.length + 1 → (s Q r).Ok) : (ordC m sub P g x).Ok := by
  unfold ordC
  split
  · trivial
  · rename_i r k hr
    have hk := retR_count hr
    have hQ : POk (P ++ [(g, x, k)]) := fun p hp => by
      rcases List.mem_append.1 hp with h | h
      · exact hP p h
      · rw [List.mem_singleton.1 h]; exact hk
    split
    · rename_i hm
      have hD : POk ((P ++ [(g, x, k)]).drop (((P ++ [(g, x, k)]).map (·.1)).idxOf r)) := fun p hp => hQ p (List.mem_of_mem_drop hp)
      have hb := pthF_bound hD
      have hlen : ((P ++ [(g, x, k)]).drop (((P ++ [(g, x, k)]).map (·.1)).idxOf r)).length ≤ 12 := by simp; omega
      split
      · rename_i h1
        refine ⟨by simpa using hlen, h1, Nat.le_trans hb.2 ?_⟩
        exact Nat.le_trans (Nat.pow_le_pow_right (by omega) hlen) (by decide)
      · exact ⟨hk.1, by omega⟩
    · split
      · trivial
      · rename_i s
        have h := hs s rfl (P ++ [(g, x, k)]) r hQ (by simp)
        split
        · rename_i n hn
          rw [hn] at h
          split
          · trivial
          · exact ⟨Nat.mul_pos hk.1 h.1, by omega⟩
        · exact h
theorem ordL_ok {m : Mch} {c : Nat → Ores} {g : Wd} (hc : ∀ i, i < m.l → (c i).Ok) : ∀ i, i ≤ m.l → (ordL m c g i).fin.Ok
  | 0, _ => by exact ⟨Nat.le_refl _, by decide⟩
  | i + 1, hi => by
    have ih := ordL_ok (g := g) hc i (by omega)
    have h := hc i (by omega)
    unfold ordL
    split
    · rename_i e he; rw [he] at ih; exact ih
    · rename_i n seen he
      rw [he] at ih
      split
      · exact ih
      · split
        · rename_i k hk
          rw [hk] at h
          split
          · trivial
          · rename_i hle
            have h1 : 1 ≤ n := ih.1
            have h2 : 1 ≤ k := h.1
            have hg : 0 < n / Nat.gcd n k := Nat.div_pos (Nat.le_of_dvd h1 (Nat.gcd_dvd_left n k)) (Nat.gcd_pos_of_pos_left _ h1)
            refine ⟨Nat.mul_pos hg h2, ?_⟩
            have := Nat.mul_le_mul_right k (Nat.le_of_not_lt hle)
            exact Nat.le_trans this (Nat.div_mul_le_self _ _)
        · exact h
theorem ordS_ok (m : Mch) : ∀ (n : Nat) (P : Pth) (g : Wd), POk P → P.length + n = 11 → (ordS m n P g).Ok
  | 0, P, g, hP, hl => by
    unfold ordS
    split
    · exact ⟨Nat.le_refl _, by decide⟩
    · exact ordL_ok (fun i hi => ordC_ok hP (by omega) fun s hs => by cases hs) m.l (Nat.le_refl _)
  | n + 1, P, g, hP, hl => by
    unfold ordS
    split
    · exact ⟨Nat.le_refl _, by decide⟩
    · exact ordL_ok (fun i hi => ordC_ok hP (by omega) fun s hs Q r hQ hlq => by
        injection hs with hs; subst hs
        exact ordS_ok m n Q r hQ (by omega)) m.l (Nat.le_refl _)
theorem ordW_ok (m : Mch) (g : Wd) : (ordW m g).Ok := ordS_ok m 11 [] _ (fun p hp => by cases hp) rfl
end Go.Proofs.Yteagecoiijhflaa

/- IsMachine and its reference: both ask whether a struct is a machine. -/
namespace Go.Proofs.Yteagecoiijhflaa
open Go.RowKit
set_option linter.unusedVariables false
set_option linter.unusedSimpArgs false

theorem and_bit : ∀ t, t < 8 → ∀ o, o < 3 → (bits BinOp.and IntKind.i64 ((t : Nat) / 2 ^ o) 1 == 1) = (t : Nat).testBit o := by decide
theorem or_bit : ∀ t, t < 8 → ∀ o, o < 3 → bits BinOp.or IntKind.i64 (t : Nat) (wrap64 (2 ^ o)) = ((t ||| 2 ^ o : Nat) : Int) ∧ (t ||| 2 ^ o : Nat) < 8 := by decide +kernel

/-- the letters that a state has put out before x, as a mask -/
def SeenM (m : Mch) (q k t : Nat) : Prop := t < 8 ∧ ∀ v, v < 3 → t.testBit v = (List.range k).any fun y => decide (m.o q y = (v : Int))

theorem SeenM.zero (m : Mch) (q : Nat) : SeenM m q 0 0 := ⟨by omega, by simp⟩

theorem SeenM.step {m : Mch} {q k t o : Nat} (h : SeenM m q k t) (ho : m.o q k = (o : Int)) (hlt : o < 3) : SeenM m q (k + 1) (t ||| 2 ^ o) := by
  refine ⟨(or_bit t h.1 o hlt).2, fun v hv => ?_⟩
  rw [Nat.testBit_or, h.2 v hv, List.range_succ, List.any_append, Nat.testBit_two_pow]
  simp only [List.any_cons, List.any_nil, Bool.or_false, ho]
  congr 1
  simp
  omega

theorem SeenM.all {m : Mch} {q k t o : Nat} (h : SeenM m q k t) (ho : m.o q k = (o : Int)) (hlt : o < 3) :
    ((List.range k).all fun y => m.o q y != m.o q k) = !t.testBit o := by
  rw [h.2 o hlt, List.not_any_eq_all_not, ho]
  congr 1

def rowUpto (m : Mch) (q k : Nat) : Bool := (List.range k).all fun x => entryP m q x
theorem rowUpto_succ (m : Mch) (q k : Nat) : rowUpto m q (k + 1) = (rowUpto m q k && entryP m q k) := by
  simp [rowUpto, List.range_succ, List.all_append]
theorem row_false {m : Mch} {q k : Nat} (hk : k < 3) (h : entryP m q k = false) : rowP m q = false := by
  rw [rowP, List.all_eq_false]
  exact ⟨k, by simpa using hk, by simp [h]⟩

theorem entry_idle {m : Mch} {q k : Nat} (h : ¬ ((q : Int) < m.S ∧ (k : Int) < m.L)) : entryP m q k = (decide (m.n q k = 0) && decide (m.o q k = 0)) := by
  have : (decide (m.S ≤ (q : Int)) || decide (m.L ≤ (k : Int))) = true := by
    rw [Bool.or_eq_true, decide_eq_true_eq, decide_eq_true_eq]; omega
  simp only [entryP, this, if_true]
  rw [Bool.eq_iff_iff]
  simp
theorem entry_act {m : Mch} {q k : Nat} (h : (q : Int) < m.S ∧ (k : Int) < m.L) :
    entryP m q k = (decide (m.n q k < m.S) && decide (m.o q k < m.L) && (List.range k).all fun y => m.o q y != m.o q k) := by
  have : (decide (m.S ≤ (q : Int)) || decide (m.L ≤ (k : Int))) = false := by
    rw [Bool.or_eq_false_iff, decide_eq_false_iff_not, decide_eq_false_iff_not]; omega
  simp only [entryP, this]
  simp

def RowPost (m : Mch) (q : Nat) (w : World) (e : Ending) (w' : World) : Prop := e = .returned (.bool (rowP m q)) ∧ ∃ n, w' = w.drewN n

set_option maxHeartbeats 2000000 in
theorem isRow_any (b o : Nat) (m : Mch) (hwf : m.Wf) (q : Nat) (hq : q < 16) (w : World) (hm : MAt w b o m) (hL : m.L ≤ 3) :
    Calls Try.prog 103 #[.pointer (some ⟨b, o, none⟩), .int .i64 q] w (RowPost m q w) := by
  have hl := hm.l
  have hs := hm.s
  go_enter Try.func103, Try.ntmps103
  go_wp2
  go_loopw [4, 5, 9] (fun r s x wr => ∃ k : Nat, ∃ t n : Nat, k ≤ 3 ∧ x = .int .i64 k ∧ s = .int .i64 t ∧ rowUpto m q k = true ∧ (((q : Int) < m.S → (k : Int) ≤ m.L → SeenM m q k t)) ∧ r = .bool false ∧ wr = w.drewN n) (fun _ _ x _ => 3 - (intOf x).toNat)
  case atStart => exact ⟨0, 0, 0, by omega, rfl, rfl, rfl, fun _ _ => SeenM.zero _ _, rfl, rfl⟩
  case round =>
    obtain ⟨k, t, n, hk, rfl, rfl, hu, hsn, rfl, rfl⟩ := hrel
    have HU := Lib.hid hu
    have HS := Lib.hid hsn
    clear hu hsn
    by_cases hlt : k < 3
    · have e2 := hm.nn hwf hq hlt
      have e3 := hm.oo hwf hq hlt
      have b2 : 0 ≤ m.n q k ∧ m.n q k ≤ 255 := hwf.nb (q * 3 + k)
      have b3 : 0 ≤ m.o q k ∧ m.o q k ≤ 255 := hwf.ob (q * 3 + k)
      have i1 : (q : Int) < 16 := by omega
      have i2 : (0 : Int) ≤ (q : Int) := by omega
      have i3 : (k : Int) < 3 := by omega
      have i4 : (0 : Int) ≤ (k : Int) := by omega
      clear hm
      obtain ⟨N, hN⟩ : ∃ N, N = m.n q k := ⟨_, rfl⟩
      obtain ⟨O, hO⟩ : ∃ O, O = m.o q k := ⟨_, rfl⟩
      rw [← hN] at e2 b2
      rw [← hO] at e3 b3
      have HN := Lib.hid hN
      have HO := Lib.hid hO
      clear hN hO
      by_cases hact : (q : Int) < m.S ∧ (k : Int) < m.L
      · have HA := entry_act hact
        rw [← HN.out, ← HO.out] at HA
        obtain ⟨a1, a2⟩ := hact
        by_cases c1 : N < m.S
        · by_cases c2 : O < m.L
          · obtain ⟨o', ho'⟩ : ∃ o' : Nat, O = o' := ⟨O.toNat, by omega⟩
            subst ho'
            have ho3 : o' < 3 := by omega
            have hS := HS.out a1 (by omega)
            have hall := hS.all HO.out.symm ho3
            have hab := and_bit t hS.1 o' ho3
            have hob := (or_bit t hS.1 o' ho3).1
            have hstep := Lib.hid (hS.step HO.out.symm ho3)
            have HOB := Lib.hid hob
            rw [HO.out, hall, ← hab] at HA
            clear hall hab hob hS
            have HA' := Lib.hid HA
            clear HA
            by_cases c3 : (bits BinOp.and IntKind.i64 ((t : Int) / 2 ^ o') 1 == 1) = true
            · have hf : rowP m q = false := row_false hlt (by rw [HA'.out, c3]; simp)
              have HF := Lib.hid hf
              clear hf
              go_wp2
              go_quiet (fail)
              go_wp2
              go_ret
              exact ⟨ret_bool HF.out.symm, _, rfl⟩
            · have c3' : (bits BinOp.and IntKind.i64 ((t : Int) / 2 ^ o') 1 == 1) = false := by simpa using c3
              clear c3
              have hf : rowUpto m q (k + 1) = true := by rw [rowUpto_succ, HU.out, HA'.out, c3']; simp [c1, ← HO.out, c2]
              have HF := Lib.hid hf
              clear hf
              go_wp2
              go_quiet (fail)
              go_wp2
              go_roundw
              case rel => exact ⟨k + 1, t ||| 2 ^ o', _, by omega, by go_num, by rw [HOB.out], HF.out, fun _ _ => hstep.out, rfl, rfl⟩
              case measure => simp [intOf]; omega
          · have hf : rowP m q = false := row_false hlt (by rw [HA]; simp [c2])
            have HF := Lib.hid hf
            clear hf HA
            go_wp2
            go_quiet (fail)
            go_wp2
            go_ret
            exact ⟨ret_bool HF.out.symm, _, rfl⟩
        · have hf : rowP m q = false := row_false hlt (by rw [HA]; simp [c1])
          have HF := Lib.hid hf
          clear hf HA
          go_wp2
          go_quiet (fail)
          go_wp2
          go_ret
          exact ⟨ret_bool HF.out.symm, _, rfl⟩
      · have HA := entry_idle hact
        rw [← HN.out, ← HO.out] at HA
        have hno : (q : Int) < m.S → (k : Int) + 1 ≤ m.L → False := fun a c => hact ⟨a, by omega⟩
        have HNO := Lib.hid hno
        clear hno
        have HA' := Lib.hid HA
        clear HA
        by_cases c1 : N = 0
        · by_cases c2 : (O != 0) = true
          · have hf : rowP m q = false := row_false hlt (by rw [HA'.out]; simp at c2; simp [c2])
            have HF := Lib.hid hf
            clear hf
            by_cases c4 : m.S ≤ (q : Int)
            all_goals (go_wp2; go_quiet (fail); go_wp2; go_ret; exact ⟨ret_bool HF.out.symm, _, rfl⟩)
          · have c2' : (O != 0) = false := by simpa using c2
            clear c2
            have hf : rowUpto m q (k + 1) = true := by rw [rowUpto_succ, HU.out, HA'.out]; simp at c2'; simp [c1, c2']
            have HF := Lib.hid hf
            clear hf
            by_cases c4 : m.S ≤ (q : Int)
            · go_wp2
              go_quiet (fail)
              go_wp2
              go_roundw
              case rel => exact ⟨k + 1, t, _, by omega, by go_num, rfl, HF.out, fun a c => (HNO.out a (by omega)).elim, rfl, rfl⟩
              case measure => simp [intOf]; omega
            · go_wp2
              go_quiet (fail)
              go_wp2
              go_roundw
              case rel => exact ⟨k + 1, t, _, by omega, by go_num, rfl, HF.out, fun a c => (HNO.out a (by omega)).elim, rfl, rfl⟩
              case measure => simp [intOf]; omega
        · have hf : rowP m q = false := row_false hlt (by rw [HA'.out]; simp [c1])
          have HF := Lib.hid hf
          clear hf
          by_cases c4 : m.S ≤ (q : Int)
          all_goals (go_wp2; go_quiet (fail); go_wp2; go_ret; exact ⟨ret_bool HF.out.symm, _, rfl⟩)
    · have hk3 : k = 3 := by omega
      subst hk3
      have HF := Lib.hid (show rowP m q = true from HU.out)
      go_wp2
      go_ret
      exact ⟨ret_bool HF.out.symm, _, rfl⟩
end Go.Proofs.Yteagecoiijhflaa
