import Derived.Test.YthgkkaifdlkciaaYKind06
import Derived.Test.YthgkkaifdlkciaaYKind01
import Derived.Test.YthgkkaifdlkciaaYKind03
import Derived.Test.YthgkkaifdlkciaaYKind05
/- The minimal machine. -/
namespace Go.Proofs.Ythgkkaifdlkciaa
set_option linter.unusedVariables false
set_option linter.unusedSimpArgs false

/-- 16 rows of 3 numbers: n rows of d numbers are given, the rest are 0 -/
def grid (n d : Nat) (f : Nat → Nat → Nat) : List Int := (List.range 48).map fun j => if j / 3 < n ∧ j % 3 < d then (f (j / 3) (j % 3) : Int) else 0
theorem grid_len (n d : Nat) (f : Nat → Nat → Nat) : (grid n d f).length = 48 := by simp [grid]
theorem grid_get {n d : Nat} (f : Nat → Nat → Nat) (hn : n ≤ 16) (hd : d ≤ 3) {q x : Nat} (hq : q < n) (hx : x < d) : (grid n d f)[q * 3 + x]?.getD 0 = (f q x : Int) := by
  have h : q * 3 + x < 48 := by omega
  simp only [grid, List.getElem?_map, List.getElem?_range h, Option.map_some, Option.getD_some]
  rw [show (q * 3 + x) / 3 = q by omega, show (q * 3 + x) % 3 = x by omega, if_pos ⟨hq, hx⟩]
theorem grid_bound {n d b : Nat} {f : Nat → Nat → Nat} (hf : ∀ q x, q < n → x < d → f q x ≤ b) (i : Nat) : 0 ≤ (grid n d f)[i]?.getD 0 ∧ (grid n d f)[i]?.getD 0 ≤ (b : Int) := by
  by_cases h : i < 48
  · simp only [grid, List.getElem?_map, List.getElem?_range h, Option.map_some, Option.getD_some]
    split
    · rename_i hc
      have := hf _ _ hc.1 hc.2
      omega
    · omega
  · rw [List.getElem?_eq_none (by rw [grid_len]; omega)]
    simp only [Option.getD_none]; omega
def minM (m : Mch) : Mch := ⟨m.L, (m.tbl.rk m.s : Int), grid (m.tbl.rk m.s) m.l m.tbl.minT.nx, grid (m.tbl.rk m.s) m.l m.tbl.minT.ot⟩
theorem minM_s (m : Mch) : (minM m).s = m.tbl.rk m.s := by simp [Mch.s, minM]
theorem rk_le16 {m : Mch} (hok : m.Ok) : m.tbl.rk m.s ≤ 16 := Nat.le_trans (m.tbl.rk_le m.s) hok.s_le
theorem minT_nx_lt {m : Mch} (hok : m.Ok) (hwf : m.Wf) {q x : Nat} (hq : q < m.tbl.rk m.s) (hx : x < m.l) : m.tbl.minT.nx q x < m.tbl.rk m.s := Tbl.minT_wf (Mch.tbl_wf hok hwf) q x hq hx
theorem minT_ot_lt {m : Mch} (hok : m.Ok) (hwf : m.Wf) {q x : Nat} (hq : q < m.tbl.rk m.s) (hx : x < m.l) : m.tbl.minT.ot q x < m.l := hok.on_lt hwf (Tbl.rep_lt (t := m.tbl) hq).1 hx
theorem minM_wf {m : Mch} (hok : m.Ok) (hwf : m.Wf) : (minM m).Wf := by
  have h16 := rk_le16 hok
  have hl := hok.l_le
  refine ⟨grid_len _ _ _, grid_len _ _ _, fun i => ?_, fun i => ?_, hwf.lb, ?_⟩
  · have := grid_bound (n := m.tbl.rk m.s) (d := m.l) (b := 255) (f := m.tbl.minT.nx) (fun q x hq hx => by have := minT_nx_lt hok hwf hq hx; omega) i
    simpa [minM] using this
  · have := grid_bound (n := m.tbl.rk m.s) (d := m.l) (b := 255) (f := m.tbl.minT.ot) (fun q x hq hx => by have := minT_ot_lt hok hwf hq hx; omega) i
    simpa [minM] using this
  · simp only [minM]; omega
theorem minM_nn {m : Mch} (hok : m.Ok) {q x : Nat} (hq : q < m.tbl.rk m.s) (hx : x < m.l) : (minM m).nn q x = m.tbl.minT.nx q x := by
  simp only [Mch.nn, Mch.n, minM, grid_get _ (rk_le16 hok) hok.l_le hq hx, Int.toNat_natCast]
theorem minM_on {m : Mch} (hok : m.Ok) {q x : Nat} (hq : q < m.tbl.rk m.s) (hx : x < m.l) : (minM m).on q x = m.tbl.minT.ot q x := by
  simp only [Mch.on, Mch.o, minM, grid_get _ (rk_le16 hok) hok.l_le hq hx, Int.toNat_natCast]
theorem rk_pos {m : Mch} (hok : m.Ok) : 1 ≤ m.tbl.rk m.s := by
  have h0 : m.tbl.fin 0 = 0 := Nat.le_zero.1 (m.tbl.fin_le 0)
  have := Tbl.rk_lt (t := m.tbl) h0 (show 0 < m.s from hok.s_pos)
  omega
theorem minM_ok {m : Mch} (hok : m.Ok) (hwf : m.Wf) : (minM m).Ok := by
  have h16 := rk_le16 hok
  have hL := hok.L_eq
  have hg1 : ∀ q x : Nat, (q : Int) < (minM m).S → (x : Int) < (minM m).L → q < m.tbl.rk m.s ∧ x < m.l := fun q x hq hx => by
    simp only [minM] at hq hx
    exact ⟨by omega, by omega⟩
  have hn : ∀ q x : Nat, q < m.tbl.rk m.s → x < m.l → (minM m).n q x = (m.tbl.minT.nx q x : Int) := fun q x hq hx => by simp only [Mch.n, minM, grid_get _ h16 hok.l_le hq hx]
  have ho : ∀ q x : Nat, q < m.tbl.rk m.s → x < m.l → (minM m).o q x = (m.tbl.minT.ot q x : Int) := fun q x hq hx => by simp only [Mch.o, minM, grid_get _ h16 hok.l_le hq hx]
  refine ⟨hok.l2, hok.l3, ?_, ?_, fun q x hq hx => ?_, fun q x hq hx => ?_, fun q x y hq hx hy e => ?_⟩
  · have := rk_pos hok; simp only [minM]; omega
  · simp only [minM]; omega
  · obtain ⟨a, b⟩ := hg1 q x hq hx
    rw [hn q x a b]
    have := minT_nx_lt hok hwf a b
    simp only [minM]; omega
  · obtain ⟨a, b⟩ := hg1 q x hq hx
    rw [ho q x a b]
    have := minT_ot_lt hok hwf a b
    simp only [minM]; omega
  · obtain ⟨a, b⟩ := hg1 q x hq hx
    obtain ⟨_, c⟩ := hg1 q y hq hy
    rw [ho q x a b, ho q y a c] at e
    exact hok.on_inj hwf (Tbl.rep_lt (t := m.tbl) a).1 b c (Int.ofNat.inj e)
end Go.Proofs.Ythgkkaifdlkciaa

/- Reaching, cycles, chains of cycles in a table: no program in sight. -/
namespace Go.Proofs.Ythgkkaifdlkciaa
set_option linter.unusedVariables false
set_option linter.unusedSimpArgs false

def Tbl.E (t : Tbl) (q r : Nat) : Prop := ∃ x, x < t.d ∧ t.nx q x = r
inductive Tbl.R (t : Tbl) : Nat → Nat → Prop
  | one {q r : Nat} : t.E q r → Tbl.R t q r
  | step {q u r : Nat} : t.E q u → Tbl.R t u r → Tbl.R t q r
noncomputable def Tbl.rb (t : Tbl) (q r : Nat) : Bool := @decide (t.R q r) (Classical.propDecidable _)
theorem Tbl.rb_iff {t : Tbl} {q r : Nat} : t.rb q r = true ↔ t.R q r := by unfold Tbl.rb; exact @decide_eq_true_iff _ (Classical.propDecidable _)
theorem Tbl.rb_no {t : Tbl} {q r : Nat} : t.rb q r = false ↔ ¬ t.R q r := by rw [← Tbl.rb_iff]; simp
theorem Tbl.R.trans {t : Tbl} {q u r : Nat} (h : t.R q u) (h2 : t.R u r) : t.R q r := by
  induction h with
  | one e => exact .step e h2
  | step e _ ih => exact .step e (ih h2)
theorem Tbl.R.snoc {t : Tbl} {q u r : Nat} (h : t.R q u) (h2 : t.E u r) : t.R q r := h.trans (.one h2)
theorem Tbl.R.lt {t : Tbl} (hw : t.Wf) {q r : Nat} (h : t.R q r) : q < t.n → r < t.n := by
  induction h with
  | one e => obtain ⟨x, hx, rfl⟩ := e; exact fun hq => hw _ _ hq hx
  | step e _ ih => obtain ⟨x, hx, rfl⟩ := e; exact fun hq => ih (hw _ _ hq hx)
theorem Tbl.R.first {t : Tbl} {q r : Nat} (h : t.R q r) : ∃ u, t.E q u ∧ (u = r ∨ t.R u r) := by
  cases h with
  | one e => exact ⟨r, e, .inl rfl⟩
  | step e h => exact ⟨_, e, .inr h⟩
/-- a path leaves what it does not end in -/
theorem Tbl.R.exit {t : Tbl} {S : Nat → Prop} {q r : Nat} (h : t.R q r) : S q → ¬ S r → ∃ a b, S a ∧ t.E a b ∧ ¬ S b ∧ (b = r ∨ t.R b r) := by
  induction h with
  | one e => exact fun h1 h2 => ⟨_, _, h1, e, h2, .inl rfl⟩
  | @step q u r e h ih =>
    intro h1 h2
    by_cases hu : S u
    · exact ih hu h2
    · exact ⟨q, u, h1, e, hu, .inr h⟩
/-- what the trivial states satisfy in a table without equal states -/
structure Tbl.Tv (t : Tbl) (tv : Nat → Bool) : Prop where
  wf : t.Wf
  closed : ∀ q x, q < t.n → x < t.d → tv q = true → tv (t.nx q x) = true
  one : ∀ q r, q < t.n → r < t.n → tv q = true → tv r = true → q = r
theorem Tbl.Tv.path {t : Tbl} {tv : Nat → Bool} (h : t.Tv tv) {q r : Nat} (hr : t.R q r) : q < t.n → tv q = true → tv r = true := by
  induction hr with
  | one e => obtain ⟨x, hx, rfl⟩ := e; exact fun hq ht => h.closed _ _ hq hx ht
  | step e _ ih => obtain ⟨x, hx, rfl⟩ := e; exact fun hq ht => ih (h.wf _ _ hq hx) (h.closed _ _ hq hx ht)
theorem Tbl.Tv.back {t : Tbl} {tv : Nat → Bool} (h : t.Tv tv) {q r : Nat} (hq : q < t.n) (hr : t.R q r) (hf : tv r = false) : tv q = false := by
  cases e : tv q with
  | false => rfl
  | true => rw [h.path hr hq e] at hf; cases hf

/-- from q one can pass so many cycles, one behind the other -/
def Tbl.Ch (t : Tbl) (tv : Nat → Bool) : Nat → Nat → Prop
  | 0, _ => True
  | n + 1, q => ∃ r, (tv r = false ∧ t.R r r) ∧ (r = q ∨ t.R q r) ∧ (n = 0 ∨ ∃ u, t.R r u ∧ ¬ t.R u r ∧ Tbl.Ch t tv n u)
theorem Tbl.Ch.down {t : Tbl} {tv : Nat → Bool} : ∀ {n q : Nat}, t.Ch tv (n + 1) q → t.Ch tv n q
  | 0, _, _ => trivial
  | n + 1, q, ⟨r, h1, h2, h3⟩ => by
    refine ⟨r, h1, h2, ?_⟩
    by_cases hn : n = 0
    · exact .inl hn
    · rcases h3 with h3 | ⟨u, a, b, c⟩
      · omega
      · exact .inr ⟨u, a, b, c.down⟩
theorem Tbl.Ch.le {t : Tbl} {tv : Nat → Bool} {n q : Nat} : ∀ {d : Nat}, t.Ch tv (n + d) q → t.Ch tv n q
  | 0, h => h
  | d + 1, h => Tbl.Ch.le (d := d) (Tbl.Ch.down h)
theorem Tbl.Ch.up {t : Tbl} {tv : Nat → Bool} {q u : Nat} (hu : u = q ∨ t.R q u) : ∀ {n : Nat}, t.Ch tv n u → t.Ch tv n q
  | 0, _ => trivial
  | n + 1, ⟨r, h1, h2, h3⟩ => by
    refine ⟨r, h1, ?_, h3⟩
    rcases hu with rfl | hu
    · exact h2
    · rcases h2 with rfl | h2
      · exact .inr hu
      · exact .inr (hu.trans h2)
def Tbl.Mx (t : Tbl) (tv : Nat → Bool) (v q : Nat) : Prop := t.Ch tv v q ∧ ¬ t.Ch tv (v + 1) q
theorem Tbl.Mx.ge {t : Tbl} {tv : Nat → Bool} {v w q : Nat} (h : t.Mx tv v q) (hw : t.Ch tv w q) : w ≤ v := by
  rcases Nat.lt_or_ge v w with c | c
  · exact absurd (Tbl.Ch.le (d := w - (v + 1)) (by rwa [show v + 1 + (w - (v + 1)) = w by omega])) h.2
  · exact c
theorem Tbl.Mx.eq {t : Tbl} {tv : Nat → Bool} {v w q : Nat} (h : t.Mx tv v q) (hw : t.Mx tv w q) : v = w := Nat.le_antisymm (hw.ge h.1) (h.ge hw.1)

def lmx (l : List Nat) : Nat := l.foldl max 0
theorem lmx_from : ∀ (l : List Nat) (a : Nat), l.foldl max a = max a (lmx l)
  | [], a => by simp [lmx]
  | b :: l, a => by
    have h1 := lmx_from l (max a b)
    have h2 := lmx_from l (max 0 b)
    simp only [lmx, List.foldl_cons] at h1 h2 ⊢
    rw [h1, h2]; omega
theorem lmx_snoc (l : List Nat) (a : Nat) : lmx (l ++ [a]) = max (lmx l) a := by simp [lmx]
theorem lmx_cons (a : Nat) (l : List Nat) : lmx (a :: l) = max a (lmx l) := by rw [← lmx_from]; simp [lmx]
theorem lmx_ge {l : List Nat} {a : Nat} (h : a ∈ l) : a ≤ lmx l := by
  induction l with
  | nil => cases h
  | cons b l ih =>
    rw [lmx_cons]
    rcases List.mem_cons.1 h with rfl | h
    · omega
    · have := ih h; omega
theorem lmx_mem : ∀ (l : List Nat), lmx l = 0 ∨ lmx l ∈ l
  | [] => .inl rfl
  | b :: l => by
    rw [lmx_cons]
    rcases lmx_mem l with h | h
    · rw [h]
      by_cases hb : b = 0
      · exact .inl (by omega)
      · exact .inr (by rw [Nat.max_eq_left (by omega)]; exact List.mem_cons_self ..)
    · rcases Nat.le_total b (lmx l) with c | c
      · rw [Nat.max_eq_right c]; exact .inr (List.mem_cons_of_mem _ h)
      · rw [Nat.max_eq_left c]; exact .inr (List.mem_cons_self ..)
theorem filter_len_le {p p' : Nat → Bool} : ∀ (l : List Nat), (∀ q ∈ l, p' q = true → p q = true) → (l.filter p').length ≤ (l.filter p).length
  | [], _ => Nat.le_refl _
  | a :: l, h => by
    have ih := filter_len_le l fun q hq => h q (List.mem_cons_of_mem _ hq)
    have ha := h a (List.mem_cons_self ..)
    rw [List.filter_cons, List.filter_cons]
    cases h1 : p' a with
    | false => cases h2 : p a <;> simp <;> omega
    | true => rw [ha h1]; simp; omega

section
variable (t : Tbl) (tv : Nat → Bool)
/-- q lies on a cycle -/
noncomputable def Tbl.cyB (q : Nat) : Bool := !tv q && t.rb q q
noncomputable def Tbl.cyL (q : Nat) : List Nat := if t.cyB tv q = true then (List.range t.n).filter fun r => t.rb q r && t.rb r q else []
noncomputable def Tbl.frm (q : Nat) : List Nat := if t.cyB tv q = true then t.cyL tv q else [q]
/-- where one goes on to behind the cycle of q -/
noncomputable def Tbl.outs (q : Nat) : List Nat := ((t.frm tv q).flatMap fun r => (List.range t.d).map (t.nx r)).filter fun u => !(t.frm tv q).contains u
noncomputable def Tbl.pasF : Nat → Nat → Nat
  | 0, _ => 0
  | k + 1, q => lmx ((t.outs tv q).map (Tbl.pasF k)) + (if t.cyB tv q = true then 1 else 0)
noncomputable def Tbl.mu (q : Nat) : Nat := ((List.range t.n).filter fun r => decide (r = q) || t.rb q r).length
end
section
variable {t : Tbl} {tv : Nat → Bool}
theorem Tbl.mu_le (q : Nat) : t.mu q ≤ t.n := by
  have := List.length_filter_le (fun r => decide (r = q) || t.rb q r) (List.range t.n)
  rw [List.length_range] at this; exact this
theorem Tbl.mu_mono {q u : Nat} (h : u = q ∨ t.R q u) : t.mu u ≤ t.mu q := by
  refine filter_len_le _ fun r _ hr => ?_
  simp only [Bool.or_eq_true, decide_eq_true_eq, Tbl.rb_iff] at hr ⊢
  rcases h with rfl | h
  · exact hr
  · rcases hr with rfl | hr
    · exact .inr h
    · exact .inr (h.trans hr)
theorem Tbl.mu_lt {q u : Nat} (hq : q < t.n) (h : t.R q u) (hn : ¬ t.R u q) : t.mu u < t.mu q := by
  refine filter_len_lt _ (fun r _ hr => ?_) ⟨q, List.mem_range.2 hq, by simp, ?_⟩
  · simp only [Bool.or_eq_true, decide_eq_true_eq, Tbl.rb_iff] at hr ⊢
    rcases hr with rfl | hr
    · exact .inr h
    · exact .inr (h.trans hr)
  · simp only [Bool.or_eq_false_iff, decide_eq_false_iff_not, Tbl.rb_no]
    refine ⟨fun e => ?_, hn⟩
    rw [← e] at h hn; exact hn h
theorem Tbl.cyB_iff {q : Nat} : t.cyB tv q = true ↔ tv q = false ∧ t.R q q := by simp [Tbl.cyB, Tbl.rb_iff]
theorem Tbl.cyL_mem {q r : Nat} (hc : t.cyB tv q = true) : r ∈ t.cyL tv q ↔ r < t.n ∧ t.R q r ∧ t.R r q := by
  rw [Tbl.cyL, if_pos hc]
  simp [List.mem_filter, Tbl.rb_iff]
theorem Tbl.outs_mem {q u : Nat} : u ∈ t.outs tv q ↔ (∃ r, r ∈ t.frm tv q ∧ t.E r u) ∧ u ∉ t.frm tv q := by
  simp only [Tbl.outs, List.mem_filter, List.mem_flatMap, List.mem_map, List.mem_range, Tbl.E]
  simp
/-- what lies behind the cycle of q does not come back to it -/
theorem Tbl.outs_far (h : t.Tv tv) {q u : Nat} (hq : q < t.n) (hu : u ∈ t.outs tv q) : t.R q u ∧ ¬ t.R u q ∧ u < t.n := by
  rw [Tbl.outs_mem] at hu
  obtain ⟨⟨r, hr, he⟩, hn⟩ := hu
  cases hc : t.cyB tv q with
  | true =>
    rw [Tbl.frm, if_pos hc] at hr hn
    rw [Tbl.cyL_mem hc] at hr hn
    have h1 : t.R q u := hr.2.1.snoc he
    have h2 := h1.lt h.wf hq
    exact ⟨h1, fun h3 => hn ⟨h2, h1, h3⟩, h2⟩
  | false =>
    rw [Tbl.frm, if_neg (by simp [hc])] at hr hn
    rw [List.mem_singleton] at hr hn
    subst hr
    have h1 : t.R r u := .one he
    have h2 := h1.lt h.wf hq
    refine ⟨h1, fun h3 => ?_, h2⟩
    have h4 : tv r = true := by
      cases e : tv r with
      | true => rfl
      | false => rw [Tbl.cyB_iff.2 ⟨e, h1.trans h3⟩] at hc; cases hc
    exact hn (h.one _ _ h2 hq (h.path h1 hq h4) h4)
theorem Tbl.pasF_mx (h : t.Tv tv) : ∀ (k q : Nat), q < t.n → t.mu q < k → t.Mx tv (t.pasF tv k q) q
  | 0, q, _, hm => by omega
  | k + 1, q, hq, hm => by
    have ih : ∀ u, u ∈ t.outs tv q → t.Mx tv (t.pasF tv k u) u := fun u hu => by
      obtain ⟨h1, h2, h3⟩ := Tbl.outs_far h hq hu
      exact Tbl.pasF_mx h k u h3 (by have := Tbl.mu_lt hq h1 h2; omega)
    have hge : ∀ u v, u ∈ t.outs tv q → t.Ch tv v u → v ≤ lmx ((t.outs tv q).map (t.pasF tv k)) := fun u v hu hv =>
      Nat.le_trans ((ih u hu).ge hv) (lmx_ge (List.mem_map_of_mem hu))
    have hmem : lmx ((t.outs tv q).map (t.pasF tv k)) = 0 ∨ ∃ u, u ∈ t.outs tv q ∧ t.Ch tv (lmx ((t.outs tv q).map (t.pasF tv k))) u := by
      rcases lmx_mem ((t.outs tv q).map (t.pasF tv k)) with h1 | h1
      · exact .inl h1
      · obtain ⟨u, hu, e⟩ := List.mem_map.1 h1
        exact .inr ⟨u, hu, by rw [← e]; exact (ih u hu).1⟩
    rw [Tbl.pasF]
    generalize lmx ((t.outs tv q).map (t.pasF tv k)) = v at *
    cases hc : t.cyB tv q with
    | true =>
      rw [if_pos rfl]
      have hcy := Tbl.cyB_iff.1 hc
      refine ⟨⟨q, hcy, .inl rfl, ?_⟩, ?_⟩
      · rcases hmem with h1 | ⟨u, hu, h1⟩
        · exact .inl h1
        · obtain ⟨a, b, -⟩ := Tbl.outs_far h hq hu
          exact .inr ⟨u, a, b, h1⟩
      · rintro ⟨r, h1, h2, h3⟩
        rcases h3 with h3 | ⟨u, h3, h4, h5⟩
        · omega
        · -- the path to u leaves the cycle of q
          have hex : ∃ b, b ∈ t.outs tv q ∧ t.Ch tv (v + 1) b := by
            have hS : ∀ z, t.R q z → (z ∈ t.frm tv q ↔ t.R z q) := fun z hz => by
              rw [Tbl.frm, if_pos hc, Tbl.cyL_mem hc]
              exact ⟨fun h => h.2.2, fun h' => ⟨hz.lt h.wf hq, hz, h'⟩⟩
            have hqs : q ∈ t.frm tv q := (hS q hcy.2).2 hcy.2
            have hqr : t.R q r := by
              rcases h2 with e | h2
              · rw [e]; exact hcy.2
              · exact h2
            have hqu : t.R q u := hqr.trans h3
            have hun : u ∉ t.frm tv q := fun hu => h4 (((hS u hqu).1 hu).trans hqr)
            obtain ⟨a, b, ha, hab, hb, hbu⟩ := hqu.exit (S := fun z => z ∈ t.frm tv q) hqs hun
            refine ⟨b, Tbl.outs_mem.2 ⟨⟨a, ha, hab⟩, hb⟩, Tbl.Ch.up (hbu.imp Eq.symm id) h5⟩
          obtain ⟨b, hb, hch⟩ := hex
          have := hge b _ hb hch
          omega
    | false =>
      rw [if_neg (by simp)]
      have hfr : t.frm tv q = [q] := by rw [Tbl.frm, if_neg (by simp [hc])]
      refine ⟨?_, ?_⟩
      · rcases hmem with h1 | ⟨u, hu, h1⟩
        · rw [h1]; trivial
        · exact Tbl.Ch.up (.inr (Tbl.outs_far h hq hu).1) h1
      · rintro ⟨r, h1, h2, h3⟩
        have hnq : r ≠ q := fun e => by rw [Tbl.cyB_iff.2 (e ▸ h1)] at hc; cases hc
        have hqr : t.R q r := h2.resolve_left hnq
        obtain ⟨b, he, hbr⟩ := hqr.first
        have hbq : b ≠ q := fun e => by
          subst e
          have h4 : tv b = true := by
            cases e2 : tv b with
            | true => rfl
            | false => rw [Tbl.cyB_iff.2 ⟨e2, .one he⟩] at hc; cases hc
          rw [h.path hqr hq h4] at h1
          exact absurd h1.1 (by simp)
        have hb : b ∈ t.outs tv q := Tbl.outs_mem.2 ⟨⟨q, by rw [hfr]; exact List.mem_singleton.2 rfl, he⟩, by rw [hfr, List.mem_singleton]; exact hbq⟩
        have hch : t.Ch tv (v + 1) b := ⟨r, h1, hbr.imp Eq.symm id, h3⟩
        have := hge b _ hb hch
        omega

/-! the reference's way -/
section
variable (t tv)
/-- reached through states that are not trivial -/
noncomputable def Tbl.nb (q r : Nat) : Bool := t.rb q r && !tv r
noncomputable def Tbl.admB (q r : Nat) : Bool := t.nb tv r r && (decide (r = q) || t.nb tv q r) && !(t.nb tv r q && decide (r ≠ q))
noncomputable def Tbl.tlB (r u : Nat) : Bool := decide (u ≠ r) && t.nb tv r u && !t.nb tv u r
noncomputable def Tbl.mosF : Nat → Nat → Nat
  | 0, _ => 0
  | k + 1, q => lmx (((List.range t.n).filter (t.admB tv q)).map fun r => 1 + lmx (((List.range t.n).filter (t.tlB tv r)).map (Tbl.mosF k)))
end
theorem Tbl.nb_iff {q r : Nat} : t.nb tv q r = true ↔ t.R q r ∧ tv r = false := by simp [Tbl.nb, Tbl.rb_iff]
theorem Tbl.Ch.nontriv (h : t.Tv tv) {v u : Nat} (hu : u < t.n) (hc : t.Ch tv (v + 1) u) : tv u = false := by
  obtain ⟨r, h1, h2, -⟩ := hc
  rcases h2 with rfl | h2
  · exact h1.1
  · exact h.back hu h2 h1.1
theorem Tbl.mosF_mx (h : t.Tv tv) : ∀ (k q : Nat), q < t.n → t.mu q < k → t.Mx tv (t.mosF tv k q) q
  | 0, q, _, hm => by omega
  | k + 1, q, hq, hm => by
    have hadm : ∀ r, t.admB tv q r = true ↔ ((t.R r r ∧ tv r = false) ∧ (r = q ∨ t.R q r)) ∧ ¬ (t.R r q ∧ r ≠ q) := fun r => by
      simp only [Tbl.admB, Bool.and_eq_true, Bool.or_eq_true, Bool.not_eq_true', Bool.and_eq_false_iff, decide_eq_true_eq, decide_eq_false_iff_not, Tbl.nb_iff, Tbl.nb, Bool.not_eq_false', Tbl.rb_iff, Tbl.rb_no]
      constructor
      · rintro ⟨⟨⟨a1, a2⟩, a3⟩, a4⟩
        refine ⟨⟨⟨a1, by simpa using a2⟩, a3.imp id fun x => x.1⟩, fun ⟨b1, b2⟩ => ?_⟩
        rcases a4 with (a4 | a4) | a4
        · exact a4 b1
        · have : tv q = true := by simpa using a4
          rcases a3 with a3 | a3
          · exact b2 a3
          · have h5 := h.path a3.1 hq this
            simp [h5] at a2
        · exact a4 b2
      · rintro ⟨⟨⟨a1, a2⟩, a3⟩, a4⟩
        refine ⟨⟨⟨a1, by simpa using a2⟩, a3.imp id fun x => ⟨x, by simpa using a2⟩⟩, ?_⟩
        by_cases e : r = q
        · exact .inr fun hne => hne e
        · exact .inl (.inl fun hr => a4 ⟨hr, e⟩)
    have htl : ∀ r u, tv r = false → (t.tlB tv r u = true ↔ t.R r u ∧ tv u = false ∧ ¬ t.R u r) := fun r u hr => by
      have e1 : t.nb tv u r = t.rb u r := by simp [Tbl.nb, hr]
      simp only [Tbl.tlB, Bool.and_eq_true, decide_eq_true_eq, Bool.not_eq_true', Tbl.nb_iff, e1, Tbl.rb_no]
      exact ⟨fun ⟨⟨_, a⟩, b⟩ => ⟨a.1, a.2, b⟩, fun ⟨a, b, c⟩ => ⟨⟨fun e => by rw [e] at a c; exact c a, a, b⟩, c⟩⟩
    have hrn : ∀ r, (r = q ∨ t.R q r) → r < t.n := fun r hr => by
      rcases hr with rfl | hr
      · exact hq
      · exact hr.lt h.wf hq
    have ih : ∀ r u, (r = q ∨ t.R q r) → t.R r u → ¬ t.R u r → t.Mx tv (t.mosF tv k u) u := fun r u hr h1 h2 =>
      Tbl.mosF_mx h k u (h1.lt h.wf (hrn r hr)) (by have := Tbl.mu_lt (hrn r hr) h1 h2; have := Tbl.mu_mono hr; omega)
    rw [Tbl.mosF]
    have hge : ∀ r v, t.admB tv q r = true → (v = 0 ∨ ∃ u, t.R r u ∧ ¬ t.R u r ∧ t.Ch tv v u) → v + 1 ≤ lmx (((List.range t.n).filter (t.admB tv q)).map fun r => 1 + lmx (((List.range t.n).filter (t.tlB tv r)).map (t.mosF tv k))) := fun r v hr hv => by
      have h1 := (hadm r).1 hr
      have hrl := hrn r h1.1.2
      have h2 : 1 + lmx (((List.range t.n).filter (t.tlB tv r)).map (t.mosF tv k)) ≤ lmx (((List.range t.n).filter (t.admB tv q)).map fun r => 1 + lmx (((List.range t.n).filter (t.tlB tv r)).map (t.mosF tv k))) :=
        lmx_ge (List.mem_map.2 ⟨r, List.mem_filter.2 ⟨List.mem_range.2 hrl, hr⟩, rfl⟩)
      refine Nat.le_trans ?_ h2
      cases v with
      | zero => omega
      | succ v =>
        rcases hv with hv | ⟨u, a, b, c⟩
        · omega
        · have hul := a.lt h.wf hrl
          have h3 := (ih r u h1.1.2 a b).ge c
          have h4 : t.mosF tv k u ≤ lmx (((List.range t.n).filter (t.tlB tv r)).map (t.mosF tv k)) :=
            lmx_ge (List.mem_map_of_mem (List.mem_filter.2 ⟨List.mem_range.2 hul, (htl r u h1.1.1.2).2 ⟨a, Tbl.Ch.nontriv h hul c, b⟩⟩))
          omega
    refine ⟨?_, ?_⟩
    · rcases lmx_mem (((List.range t.n).filter (t.admB tv q)).map fun r => 1 + lmx (((List.range t.n).filter (t.tlB tv r)).map (t.mosF tv k))) with h1 | h1
      · rw [h1]; trivial
      · obtain ⟨r, hr, e⟩ := List.mem_map.1 h1
        rw [← e]
        have h2 := (hadm r).1 (List.mem_filter.1 hr).2
        rw [Nat.add_comm]
        refine ⟨r, ⟨h2.1.1.2, h2.1.1.1⟩, h2.1.2, ?_⟩
        rcases lmx_mem (((List.range t.n).filter (t.tlB tv r)).map (t.mosF tv k)) with h3 | h3
        · exact .inl h3
        · obtain ⟨u, hu, e2⟩ := List.mem_map.1 h3
          rw [← e2]
          have h4 := (htl r u h2.1.1.2).1 (List.mem_filter.1 hu).2
          exact .inr ⟨u, h4.1, h4.2.2, (ih r u h2.1.2 h4.1 h4.2.2).1⟩
    · rintro ⟨r, h1, h2, h3⟩
      by_cases hr : t.R r q ∧ r ≠ q
      · -- q itself is on the cycle
        have hqr : t.R q r := h2.resolve_left hr.2
        have hqq : t.R q q := hqr.trans hr.1
        have htq : tv q = false := h.back hq hqr h1.1
        have := hge q _ ((hadm q).2 ⟨⟨⟨hqq, htq⟩, .inl rfl⟩, fun hh => hh.2 rfl⟩) (h3.imp id fun ⟨u, a, b, c⟩ => ⟨u, hqr.trans a, fun hu => b (hu.trans hqr), c⟩)
        omega
      · have := hge r _ ((hadm r).2 ⟨⟨⟨h1.2, h1.1⟩, h2⟩, hr⟩) h3
        omega
/-- both count the same -/
theorem Tbl.most_eq (h : t.Tv tv) {k j q : Nat} (hq : q < t.n) (hk : t.mu q < k) (hj : t.mu q < j) : t.pasF tv k q = t.mosF tv j q := (Tbl.pasF_mx h k q hq hk).eq (Tbl.mosF_mx h j q hq hj)
theorem Tbl.pas_eq (h : t.Tv tv) {k j q : Nat} (hq : q < t.n) (hk : t.mu q < k) (hj : t.mu q < j) : t.pasF tv k q = t.pasF tv j q := (Tbl.pasF_mx h k q hq hk).eq (Tbl.pasF_mx h j q hq hj)
theorem Tbl.mos_eq (h : t.Tv tv) {k j q : Nat} (hq : q < t.n) (hk : t.mu q < k) (hj : t.mu q < j) : t.mosF tv k q = t.mosF tv j q := (Tbl.mosF_mx h k q hq hk).eq (Tbl.mosF_mx h j q hq hj)

/-! two lines of one state inside a cycle -/
section
variable (t tv)
noncomputable def Tbl.cntL (r r' : Nat) : Nat := ((List.range t.d).filter fun x => (t.cyL tv r).contains (t.nx r' x)).length
noncomputable def Tbl.lines (r : Nat) : Nat := ((t.cyL tv r).map (t.cntL tv r)).sum
noncomputable def Tbl.expB (q : Nat) : Bool := (List.range t.n).any fun r => (decide (r = q) || t.rb q r) && decide ((t.cyL tv r).length < t.lines tv r)
noncomputable def Tbl.cntR (r : Nat) : Nat := ((List.range t.d).filter fun x => !tv (t.nx r x) && (decide (t.nx r x = r) || t.nb tv (t.nx r x) r)).length
noncomputable def Tbl.expR (q : Nat) : Bool := (List.range t.n).any fun r => (decide (r = q) || t.nb tv q r) && t.nb tv r r && decide (1 < t.cntR tv r)
end
theorem sum_big {f : Nat → Nat} : ∀ {l : List Nat}, l.length < (l.map f).sum → ∃ r ∈ l, 1 < f r
  | [], h => by simp at h
  | a :: l, h => by
    by_cases ha : 1 < f a
    · exact ⟨a, List.mem_cons_self .., ha⟩
    · simp only [List.map_cons, List.sum_cons, List.length_cons] at h
      obtain ⟨r, hr, h1⟩ := sum_big (l := l) (f := f) (by omega)
      exact ⟨r, List.mem_cons_of_mem _ hr, h1⟩
theorem sum_ge {f : Nat → Nat} : ∀ {l : List Nat}, (∀ r ∈ l, 1 ≤ f r) → l.length ≤ (l.map f).sum
  | [], _ => by simp
  | a :: l, h => by
    have h1 := h a (List.mem_cons_self ..)
    have h2 := sum_ge (l := l) (f := f) fun r hr => h r (List.mem_cons_of_mem _ hr)
    simp only [List.map_cons, List.sum_cons, List.length_cons]; omega
theorem sum_gt {f : Nat → Nat} : ∀ {l : List Nat}, (∀ r ∈ l, 1 ≤ f r) → (∃ r ∈ l, 1 < f r) → l.length < (l.map f).sum
  | [], _, ⟨r, hr, _⟩ => by cases hr
  | a :: l, h, ⟨r, hr, h3⟩ => by
    have h1 := h a (List.mem_cons_self ..)
    have hl := fun r hr => h r (List.mem_cons_of_mem a hr)
    simp only [List.map_cons, List.sum_cons, List.length_cons]
    rcases List.mem_cons.1 hr with rfl | hr
    · have h2 := sum_ge hl; omega
    · have h2 := sum_gt hl ⟨r, hr, h3⟩; omega
theorem Tbl.exp_eq (h : t.Tv tv) {q : Nat} (hq : q < t.n) : t.expB tv q = t.expR tv q := by
  rw [Bool.eq_iff_iff]
  simp only [Tbl.expB, Tbl.expR, List.any_eq_true, List.mem_range, Bool.and_eq_true, Bool.or_eq_true, decide_eq_true_eq, Tbl.rb_iff, Tbl.nb_iff]
  constructor
  · rintro ⟨r, hr, h1, h2⟩
    obtain ⟨r', hr', h3⟩ := sum_big h2
    have hc : t.cyB tv r = true := by
      cases e : t.cyB tv r with
      | true => rfl
      | false => rw [Tbl.cyL, if_neg (by simp [e])] at hr'; cases hr'
    have hcy := Tbl.cyB_iff.1 hc
    obtain ⟨a1, a2, a3⟩ := (Tbl.cyL_mem hc).1 hr'
    have ht' : tv r' = false := h.back a1 a3 hcy.1
    refine ⟨r', a1, ⟨?_, a3.trans a2, ht'⟩, Nat.lt_of_lt_of_le h3 ?_⟩
    · rcases h1 with rfl | h1
      · exact .inr ⟨a2, ht'⟩
      · exact .inr ⟨h1.trans a2, ht'⟩
    · refine filter_len_le _ fun x hx hin => ?_
      have hxd := List.mem_range.1 hx
      rw [List.contains_iff_mem, Tbl.cyL_mem hc] at hin
      simp only [Bool.and_eq_true, Bool.or_eq_true, Bool.not_eq_true', decide_eq_true_eq, Tbl.nb_iff]
      exact ⟨h.back hin.1 hin.2.2 hcy.1, .inr ⟨hin.2.2.trans a2, ht'⟩⟩
  · rintro ⟨r, hr, ⟨h1, h2⟩, h3⟩
    have hc : t.cyB tv r = true := Tbl.cyB_iff.2 ⟨h2.2, h2.1⟩
    refine ⟨r, hr, h1.imp id And.left, sum_gt (fun r' hr' => ?_) ⟨r, (Tbl.cyL_mem hc).2 ⟨hr, h2.1, h2.1⟩, Nat.lt_of_lt_of_le h3 ?_⟩⟩
    · obtain ⟨a1, a2, a3⟩ := (Tbl.cyL_mem hc).1 hr'
      obtain ⟨u, ⟨x, hx, rfl⟩, hu⟩ := a3.first
      have hru : t.R r (t.nx r' x) := a2.snoc ⟨x, hx, rfl⟩
      have hur : t.R (t.nx r' x) r := by
        rcases hu with e | hu
        · rw [e]; exact h2.1
        · exact hu
      have hm : x ∈ (List.range t.d).filter fun x => (t.cyL tv r).contains (t.nx r' x) :=
        List.mem_filter.2 ⟨List.mem_range.2 hx, by rw [List.contains_iff_mem]; exact (Tbl.cyL_mem hc).2 ⟨hru.lt h.wf hr, hru, hur⟩⟩
      exact List.length_pos_of_mem hm
    · refine filter_len_le _ fun x hx hin => ?_
      have hxd := List.mem_range.1 hx
      simp only [Bool.and_eq_true, Bool.or_eq_true, Bool.not_eq_true', decide_eq_true_eq, Tbl.nb_iff] at hin
      have hru : t.R r (t.nx r x) := .one ⟨x, hxd, rfl⟩
      rw [List.contains_iff_mem]
      refine (Tbl.cyL_mem hc).2 ⟨hru.lt h.wf hr, hru, ?_⟩
      rcases hin.2 with e | e
      · rw [e]; exact h2.1
      · exact e.1
end
end Go.Proofs.Ythgkkaifdlkciaa

/- Reaching by a queue, and by Floyd and Warshall: no program in sight. -/
namespace Go.Proofs.Ythgkkaifdlkciaa
set_option linter.unusedVariables false
set_option linter.unusedSimpArgs false

def fwB (e : Nat → Nat → Bool) : Nat → Nat → Nat → Bool
  | 0, i, j => e i j
  | k + 1, i, j => fwB e k i j || (fwB e k i k && fwB e k k j)
theorem fw_col (e : Nat → Nat → Bool) (k i : Nat) : fwB e (k + 1) i k = fwB e k i k := by
  rw [fwB]; cases fwB e k i k <;> simp
theorem fw_row (e : Nat → Nat → Bool) (k j : Nat) : fwB e (k + 1) k j = fwB e k k j := by
  rw [fwB]; cases fwB e k k j <;> simp
/-- the state of the table in the phase k when the rows ahead of i, and of the row i the places ahead of j, are done -/
def fwAt (e : Nat → Nat → Bool) (k i j p r : Nat) : Bool := if p < i ∨ (p = i ∧ r < j) then fwB e (k + 1) p r else fwB e k p r
theorem fwAt_col (e : Nat → Nat → Bool) (k i j p : Nat) : fwAt e k i j p k = fwB e k p k := by unfold fwAt; split; exact fw_col ..; rfl
theorem fwAt_row (e : Nat → Nat → Bool) (k i j r : Nat) : fwAt e k i j k r = fwB e k k r := by unfold fwAt; split; exact fw_row ..; rfl
theorem fwAt_here (e : Nat → Nat → Bool) (k i j : Nat) : fwAt e k i j i j = fwB e k i j := by unfold fwAt; rw [if_neg (by omega)]
theorem fwAt_set (e : Nat → Nat → Bool) (k i j p r : Nat) : fwAt e k i (j + 1) p r = if p = i ∧ r = j then (fwAt e k i j i j || (fwAt e k i j i k && fwAt e k i j k j)) else fwAt e k i j p r := by
  rw [fwAt_here, fwAt_col, fwAt_row]
  by_cases c : p = i ∧ r = j
  · obtain ⟨rfl, rfl⟩ := c
    rw [if_pos ⟨rfl, rfl⟩]
    unfold fwAt
    rw [if_pos (by omega)]; rfl
  · rw [if_neg c]
    unfold fwAt
    by_cases d : p < i ∨ (p = i ∧ r < j)
    · rw [if_pos d, if_pos (by omega)]
    · rw [if_neg d, if_neg (by omega)]
theorem fwAt_start (e : Nat → Nat → Bool) (k p r : Nat) : fwAt e k 0 0 p r = fwB e k p r := by unfold fwAt; rw [if_neg (by omega)]
theorem fwAt_next (e : Nat → Nat → Bool) {n : Nat} (k i p r : Nat) (hr : r < n) : fwAt e k i n p r = fwAt e k (i + 1) 0 p r := by
  unfold fwAt
  by_cases d : p < i ∨ (p = i ∧ r < n)
  · rw [if_pos d, if_pos (by omega)]
  · rw [if_neg d, if_neg (by omega)]
theorem fwAt_end (e : Nat → Nat → Bool) {n : Nat} (k p r : Nat) (hp : p < n) : fwAt e k n 0 p r = fwB e (k + 1) p r := by unfold fwAt; rw [if_pos (by omega)]

inductive Pa (e : Nat → Nat → Bool) : Nat → Nat → Prop
  | one {i j : Nat} : e i j = true → Pa e i j
  | step {i u j : Nat} : e i u = true → Pa e u j → Pa e i j
theorem Pa.trans {e : Nat → Nat → Bool} {i u j : Nat} (h : Pa e i u) (h2 : Pa e u j) : Pa e i j := by
  induction h with
  | one a => exact .step a h2
  | step a _ ih => exact .step a (ih h2)
inductive Via (e : Nat → Nat → Bool) (k : Nat) : Nat → Nat → Prop
  | one {i j : Nat} : e i j = true → Via e k i j
  | step {i u j : Nat} : e i u = true → u < k → Via e k u j → Via e k i j
theorem Via.split {e : Nat → Nat → Bool} {k i j : Nat} (h : Via e (k + 1) i j) : Via e k i j ∨ (Via e k i k ∧ Via e k k j) := by
  induction h with
  | one a => exact .inl (.one a)
  | @step i u j a hu _ ih =>
    by_cases c : u = k
    · subst c
      rcases ih with h | ⟨_, h⟩
      · exact .inr ⟨.one a, h⟩
      · exact .inr ⟨.one a, h⟩
    · have hk : u < k := by omega
      rcases ih with h | ⟨h1, h2⟩
      · exact .inl (.step a hk h)
      · exact .inr ⟨.step a hk h1, h2⟩
theorem fw_via {e : Nat → Nat → Bool} : ∀ {k i j : Nat}, Via e k i j → fwB e k i j = true
  | 0, i, j, h => by
    cases h with
    | one a => exact a
    | step _ hu _ => omega
  | k + 1, i, j, h => by
    rw [fwB, Bool.or_eq_true, Bool.and_eq_true]
    rcases h.split with h | ⟨h1, h2⟩
    · exact .inl (fw_via h)
    · exact .inr ⟨fw_via h1, fw_via h2⟩
theorem fw_pa {e : Nat → Nat → Bool} : ∀ {k i j : Nat}, fwB e k i j = true → Pa e i j
  | 0, _, _, h => .one h
  | k + 1, i, j, h => by
    rw [fwB, Bool.or_eq_true, Bool.and_eq_true] at h
    rcases h with h | ⟨h1, h2⟩
    · exact fw_pa h
    · exact (fw_pa h1).trans (fw_pa h2)
theorem fw_iff {e : Nat → Nat → Bool} {n i j : Nat} (he : ∀ i j, e i j = true → i < n) : fwB e n i j = true ↔ Pa e i j := by
  refine ⟨fw_pa, fun h => fw_via ?_⟩
  induction h with
  | one a => exact .one a
  | step a h ih =>
    refine .step a ?_ ih
    cases h with
    | one b => exact he _ _ b
    | step b _ => exact he _ _ b
/-- the edges between states that are not trivial -/
def Tbl.eB (t : Tbl) (tv : Nat → Bool) (i j : Nat) : Bool := decide (i < t.n) && !tv i && !tv j && (List.range t.d).any fun x => t.nx i x == j
theorem Tbl.eB_iff {t : Tbl} {tv : Nat → Bool} {i j : Nat} : t.eB tv i j = true ↔ i < t.n ∧ tv i = false ∧ tv j = false ∧ t.E i j := by
  simp only [Tbl.eB, Bool.and_eq_true, decide_eq_true_eq, Bool.not_eq_true', List.any_eq_true, List.mem_range, beq_iff_eq, Tbl.E, and_assoc]
theorem Tbl.fw_nb {t : Tbl} {tv : Nat → Bool} (h : t.Tv tv) {i j : Nat} (hi : i < t.n) : fwB (t.eB tv) t.n i j = t.nb tv i j := by
  rw [Bool.eq_iff_iff, fw_iff (fun i j h => (Tbl.eB_iff.1 h).1), Tbl.nb_iff]
  constructor
  · intro hp
    have hq : t.R i j ∧ tv j = false := by
      clear hi
      induction hp with
      | one a => exact ⟨.one (Tbl.eB_iff.1 a).2.2.2, (Tbl.eB_iff.1 a).2.2.1⟩
      | step a _ ih => exact ⟨.step (Tbl.eB_iff.1 a).2.2.2 ih.1, ih.2⟩
    exact hq
  · rintro ⟨hr, hj⟩
    induction hr with
    | @one q r a => exact .one (Tbl.eB_iff.2 ⟨hi, h.back hi (.one a) hj, hj, a⟩)
    | @step q u r a hr ih =>
      obtain ⟨x, hx, rfl⟩ := a
      have hu := h.wf _ _ hi hx
      have hut := h.back hu hr hj
      exact .step (Tbl.eB_iff.2 ⟨hi, h.back hi (.one ⟨x, hx, rfl⟩) hut, hut, ⟨x, hx, rfl⟩⟩) (ih hu hj)

/-! reaching by a queue -/
structure RInv (t : Tbl) (from_ i : Nat) (P : List Nat) (mk : Nat → Bool) : Prop where
  nodup : P.Nodup
  mark : ∀ r, mk r = true ↔ r ∈ P
  lt : ∀ r ∈ P, r < t.n
  sound : ∀ r ∈ P, t.R from_ r
  done : ∀ k, k < i → ∀ x, x < t.d → mk (t.nx ((from_ :: P)[k]?.getD 0) x) = true
structure RInv2 (t : Tbl) (from_ i x : Nat) (P : List Nat) (mk : Nat → Bool) : Prop extends RInv t from_ i P mk where
  row : ∀ y, y < x → mk (t.nx ((from_ :: P)[i]?.getD 0) y) = true
theorem RInv.start (t : Tbl) (f : Nat) : RInv t f 0 [] (fun _ => false) := ⟨List.nodup_nil, fun r => by simp, fun r h => (by cases h), fun r h => (by cases h), fun k hk => by omega⟩
theorem RInv.begin {t : Tbl} {f i : Nat} {P : List Nat} {mk : Nat → Bool} (h : RInv t f i P mk) : RInv2 t f i 0 P mk := ⟨h, fun y hy => by omega⟩
theorem RInv.at {t : Tbl} {f i : Nat} {P : List Nat} {mk : Nat → Bool} (h : RInv t f i P mk) (hf : f < t.n) (hi : i < (f :: P).length) : (f :: P)[i]?.getD 0 < t.n ∧ ((f :: P)[i]?.getD 0 = f ∨ t.R f ((f :: P)[i]?.getD 0)) := by
  rw [List.getElem?_eq_getElem hi, Option.getD_some]
  rcases List.mem_cons.1 (List.getElem_mem hi) with e | e
  · rw [e]; exact ⟨hf, .inl rfl⟩
  · exact ⟨h.lt _ e, .inr (h.sound _ e)⟩
theorem RInv2.old {t : Tbl} {f i x : Nat} {P : List Nat} {mk : Nat → Bool} (h : RInv2 t f i x P mk) (hm : mk (t.nx ((f :: P)[i]?.getD 0) x) = true) : RInv2 t f i (x + 1) P mk :=
  ⟨h.toRInv, fun y hy => by
    by_cases e : y = x
    · rw [e]; exact hm
    · exact h.row y (by omega)⟩
theorem RInv2.new {t : Tbl} (hw : t.Wf) {f i x : Nat} {P : List Nat} {mk : Nat → Bool} (h : RInv2 t f i x P mk) (hf : f < t.n) (hi : i < (f :: P).length) (hx : x < t.d) {z : Nat} (hz : t.nx ((f :: P)[i]?.getD 0) x = z) (hm : mk z = false) :
    RInv2 t f i (x + 1) (P ++ [z]) (upd mk z true) := by
  have hat := h.toRInv.at hf hi
  have hzn : z < t.n := by rw [← hz]; exact hw _ _ hat.1 hx
  have hup : ∀ r, mk r = true → upd mk z true r = true := fun r hr => by unfold upd; split; rfl; exact hr
  have hget : ∀ k, k ≤ i → (f :: (P ++ [z]))[k]?.getD 0 = (f :: P)[k]?.getD 0 := fun k hk => by
    rw [← List.cons_append, List.getElem?_append_left (by omega)]
  refine ⟨⟨?_, fun r => ?_, fun r hr => ?_, fun r hr => ?_, fun k hk y hy => ?_⟩, fun y hy => ?_⟩
  · rw [List.nodup_append]
    refine ⟨h.nodup, by simp, fun a ha b hb => ?_⟩
    rw [List.mem_singleton.1 hb]
    intro e; subst e
    rw [(h.mark a).2 ha] at hm; cases hm
  · unfold upd
    by_cases e : r = z
    · simp [e]
    · rw [if_neg e, h.mark]; simp [e]
  · rcases List.mem_append.1 hr with hr | hr
    · exact h.lt r hr
    · rw [List.mem_singleton.1 hr]; exact hzn
  · rcases List.mem_append.1 hr with hr | hr
    · exact h.sound r hr
    · rw [List.mem_singleton.1 hr]
      have he : t.E ((f :: P)[i]?.getD 0) z := ⟨x, hx, hz⟩
      rcases hat.2 with e | e
      · rw [e] at he; exact .one he
      · exact e.snoc he
  · rw [hget k (by omega)]; exact hup _ (h.done k hk y hy)
  · rw [hget i (Nat.le_refl _)]
    by_cases e : y = x
    · rw [e, hz]; unfold upd; rw [if_pos rfl]
    · exact hup _ (h.row y (by omega))
theorem RInv2.fin {t : Tbl} {f i : Nat} {P : List Nat} {mk : Nat → Bool} (h : RInv2 t f i t.d P mk) : RInv t f (i + 1) P mk :=
  ⟨h.nodup, h.mark, h.lt, h.sound, fun k hk x hx => by
    by_cases e : k = i
    · rw [e]; exact h.row x hx
    · exact h.done k (by omega) x hx⟩
theorem RInv.len {t : Tbl} {f i : Nat} {P : List Nat} {mk : Nat → Bool} (h : RInv t f i P mk) : P.length ≤ t.n := by
  have key : ∀ (n : Nat) (l : List Nat), l.Nodup → (∀ r ∈ l, r < n) → l.length ≤ n := fun n => by
    induction n with
    | zero => intro l _ hl; cases l with
      | nil => simp
      | cons a l => have := hl a (List.mem_cons_self ..); omega
    | succ n ih =>
      intro l hd hl
      have h1 := ih (l.erase n) (hd.erase n) fun r hr => by
        have h2 := (hd.mem_erase_iff.1 hr)
        have := hl r h2.2
        omega
      by_cases c : n ∈ l
      · rw [List.length_erase_of_mem c] at h1; omega
      · rw [List.erase_of_not_mem c] at h1; omega
  exact key _ _ h.nodup h.lt
theorem RInv.fin {t : Tbl} {f : Nat} {P : List Nat} {mk : Nat → Bool} (h : RInv t f (f :: P).length P mk) (r : Nat) : mk r = t.rb f r := by
  rw [Bool.eq_iff_iff, Tbl.rb_iff]
  constructor
  · intro hm; exact h.sound r ((h.mark r).1 hm)
  · intro hr
    have key : ∀ q r, t.R q r → q ∈ f :: P → mk r = true := fun q r hqr => by
      induction hqr with
      | @one q r a =>
        intro hq
        obtain ⟨x, hx, rfl⟩ := a
        obtain ⟨k, hk, e⟩ := List.getElem_of_mem hq
        have := h.done k hk x hx
        rwa [List.getElem?_eq_getElem hk, Option.getD_some, e] at this
      | @step q u r a _ ih =>
        intro hq
        obtain ⟨x, hx, rfl⟩ := a
        obtain ⟨k, hk, e⟩ := List.getElem_of_mem hq
        have := h.done k hk x hx
        rw [List.getElem?_eq_getElem hk, Option.getD_some, e] at this
        exact ih (List.mem_cons_of_mem _ ((h.mark _).1 this))
    exact key f r hr (List.mem_cons_self ..)
end Go.Proofs.Ythgkkaifdlkciaa

/- The trivial states of the minimal machine; what the kind of a state is. -/
namespace Go.Proofs.Ythgkkaifdlkciaa
set_option linter.unusedVariables false
set_option linter.unusedSimpArgs false

theorem Tbl.rk_rep {t : Tbl} {i : Nat} (hi : i < t.rk t.n) : t.rk (t.rep i) = i := by
  have h1 := Tbl.rep_lt (t := t) hi
  have h2 := Tbl.reps_get (t := t) h1.1 h1.2
  have hl : i < t.reps.length := hi
  have h3 : t.reps[i]? = some (t.rep i) := by rw [Tbl.rep, List.getElem?_eq_getElem hl]; rfl
  have hd : t.reps.Nodup := List.Pairwise.filter _ List.nodup_range
  have hr : t.rk (t.rep i) < t.reps.length := (List.getElem?_eq_some_iff.1 h2).1
  rw [List.getElem?_eq_getElem hr] at h2
  rw [List.getElem?_eq_getElem hl] at h3
  injection h2 with h2
  injection h3 with h3
  exact (List.getElem_inj hd).1 (h2.trans h3.symm)
theorem Tbl.num_rep {t : Tbl} {i : Nat} (hi : i < t.rk t.n) : t.num (t.rep i) = i := by rw [Tbl.num, (Tbl.rep_lt (t := t) hi).2, Tbl.rk_rep hi]
theorem triv_eqv {m : Mch} : ∀ (k q r : Nat), Triv m q → Triv m r → m.tbl.eqv k q r = true
  | 0, _, _, _, _ => rfl
  | k + 1, q, r, hq, hr => by
    rw [Tbl.eqv_succ]
    intro x hx
    have hx' : x < m.l := hx
    refine ⟨?_, triv_eqv k _ _ (hq.next hx') (hr.next hx')⟩
    show m.on q x = m.on r x
    rw [hq.out hx', hr.out hx']
section
variable {m : Mch} (hok : m.Ok) (hwf : m.Wf)
include hok hwf
theorem minM_num {q x : Nat} (hq : q < m.s) (hx : x < m.l) : (minM m).nn (m.tbl.num q) x = m.tbl.num (m.nn q x) ∧ (minM m).on (m.tbl.num q) x = m.on q x := by
  have h := Tbl.minT_next (t := m.tbl) (Mch.tbl_wf hok hwf) hok.s_pos hq hx
  rw [minM_nn hok (Tbl.num_lt (t := m.tbl) hq) hx, minM_on hok (Tbl.num_lt (t := m.tbl) hq) hx]
  exact h
theorem trivK_num : ∀ (r q : Nat), q < m.s → (trivK (minM m) r (m.tbl.num q) = true ↔ trivK m r q = true)
  | 0, q, _ => by simp [trivK]
  | r + 1, q, hq => by
    rw [trivK_succ, trivK_succ]
    constructor
    · intro h x hx
      have h1 := h x hx
      have h2 := minM_num hok hwf hq hx
      rw [h2.1, h2.2] at h1
      exact ⟨h1.1, (trivK_num r _ (hok.nn_lt hwf hq hx)).1 h1.2⟩
    · intro h x hx
      have h1 := h x hx
      have h2 := minM_num hok hwf hq hx
      rw [h2.1, h2.2]
      exact ⟨h1.1, (trivK_num r _ (hok.nn_lt hwf hq hx)).2 h1.2⟩
theorem minM_tv : (minM m).tbl.Tv (trivB (minM m)) := by
  have hok' := minM_ok hok hwf
  have hwf' := minM_wf hok hwf
  refine ⟨Mch.tbl_wf hok' hwf', fun q x hq hx ht => ?_, fun q r hq hr h1 h2 => ?_⟩
  · have hq' : q < (minM m).s := hq
    have hx' : x < (minM m).l := hx
    have := ((trivB_iff hok' hwf' hq').1 ht).next hx'
    exact (trivB_iff hok' hwf' (hok'.nn_lt hwf' hq' hx')).2 this
  · have hq' : q < m.tbl.rk m.s := by rw [← minM_s]; exact hq
    have hr' : r < m.tbl.rk m.s := by rw [← minM_s]; exact hr
    have key : ∀ i, i < m.tbl.rk m.s → trivB (minM m) i = true → Triv m (m.tbl.rep i) := fun i hi ht k => by
      have h3 := (trivB_iff hok' hwf' (show i < (minM m).s by rw [minM_s]; exact hi)).1 ht k
      have h4 := Tbl.num_rep (t := m.tbl) hi
      rw [← h4] at h3
      exact (trivK_num hok hwf k _ (Tbl.rep_lt (t := m.tbl) hi).1).1 h3
    have he := triv_eqv m.tbl.n _ _ (key q hq' h1) (key r hr' h2)
    have hf := (m.tbl.cls_iff m.tbl.n _ _).1 he
    have e1 : m.tbl.fin (m.tbl.rep q) = m.tbl.fin (m.tbl.rep r) := hf
    rw [(Tbl.rep_lt (t := m.tbl) hq').2, (Tbl.rep_lt (t := m.tbl) hr').2] at e1
    rw [← Tbl.rk_rep (t := m.tbl) hq', ← Tbl.rk_rep (t := m.tbl) hr', e1]
end
/-- how many cycles can be passed -/
noncomputable def degM (M : Mch) (q : Nat) : Nat := M.tbl.pasF (trivB M) (M.s + 1) q
/-- the kind of a state of a machine without equal states: a kind and a degree -/
noncomputable def kndM (M : Mch) (q : Nat) : Int × Int := if M.tbl.expB (trivB M) q = true then (2, 0) else if degM M q = 0 then (0, 0) else (1, (degM M q : Int) - 1)
noncomputable def kndR (M : Mch) (q : Nat) : Int × Int := if M.tbl.expR (trivB M) q = true then (2, 0) else if M.tbl.mosF (trivB M) (M.s + 1) q = 0 then (0, 0) else (1, (M.tbl.mosF (trivB M) (M.s + 1) q : Int) - 1)
theorem knd_eq {M : Mch} (h : M.tbl.Tv (trivB M)) {q : Nat} (hq : q < M.s) : kndR M q = kndM M q := by
  have h1 : M.tbl.mu q < M.s + 1 := Nat.lt_succ_of_le (Tbl.mu_le (t := M.tbl) q)
  unfold kndR kndM degM
  rw [Tbl.exp_eq h hq, Tbl.most_eq h hq h1 h1]
/-- the kind of a state of any machine -/
noncomputable def kndI (m : Mch) (q : Nat) : Int × Int := kndM (minM m) (m.tbl.num q)
end Go.Proofs.Ythgkkaifdlkciaa

/- The two counts of cycles, step by step: no program in sight. -/
namespace Go.Proofs.Ythgkkaifdlkciaa
set_option linter.unusedVariables false
set_option linter.unusedSimpArgs false

theorem filter_range_succ (p : Nat → Bool) (n : Nat) : (List.range (n + 1)).filter p = (List.range n).filter p ++ if p n = true then [n] else [] := by
  rw [List.range_succ, List.filter_append]
  congr 1
  rw [List.filter_cons, List.filter_nil]
theorem lmx_le {l : List Nat} {b : Nat} (h : ∀ a ∈ l, a ≤ b) : lmx l ≤ b := by
  rcases lmx_mem l with e | e
  · omega
  · exact h _ e
theorem Tbl.pasF_le (t : Tbl) (tv : Nat → Bool) : ∀ k q, t.pasF tv k q ≤ k
  | 0, _ => Nat.le_refl _
  | k + 1, q => by
    rw [Tbl.pasF]
    have := lmx_le (l := (t.outs tv q).map (t.pasF tv k)) (b := k) fun a ha => by
      obtain ⟨u, -, rfl⟩ := List.mem_map.1 ha
      exact Tbl.pasF_le t tv k u
    split <;> omega
theorem Tbl.mosF_le (t : Tbl) (tv : Nat → Bool) : ∀ k q, t.mosF tv k q ≤ k
  | 0, _ => Nat.le_refl _
  | k + 1, q => by
    rw [Tbl.mosF]
    refine lmx_le fun a ha => ?_
    obtain ⟨r, -, rfl⟩ := List.mem_map.1 ha
    have := lmx_le (l := ((List.range t.n).filter (t.tlB tv r)).map (t.mosF tv k)) (b := k) fun a ha => by
      obtain ⟨u, -, rfl⟩ := List.mem_map.1 ha
      exact Tbl.mosF_le t tv k u
    omega
section
variable (t : Tbl) (tv : Nat → Bool)
/-- what the reference's function returns -/
noncomputable def Tbl.mosD (q : Nat) : Nat := t.mosF tv (t.n + 1) q
/-- what the program's function returns -/
noncomputable def Tbl.pasD (q : Nat) : Nat := t.pasF tv (t.n + 1) q
/-- the first u states behind the cycle of r are counted -/
noncomputable def Tbl.ownT (r u : Nat) : Nat := 1 + lmx (((List.range u).filter (t.tlB tv r)).map (t.mosD tv))
/-- the first r states are counted -/
noncomputable def Tbl.bstR (q r : Nat) : Nat := lmx (((List.range r).filter (t.admB tv q)).map fun r => t.ownT tv r t.n)
end
section
variable {t : Tbl} {tv : Nat → Bool}
theorem Tbl.ownT_yes {r u : Nat} (h : t.tlB tv r u = true) : t.ownT tv r (u + 1) = max (t.ownT tv r u) (1 + t.mosD tv u) := by
  unfold Tbl.ownT
  rw [filter_range_succ, if_pos h, List.map_append, List.map_singleton, lmx_snoc]; omega
theorem Tbl.ownT_no {r u : Nat} (h : t.tlB tv r u = false) : t.ownT tv r (u + 1) = t.ownT tv r u := by
  unfold Tbl.ownT
  rw [filter_range_succ, if_neg (by simp [h]), List.append_nil]
theorem Tbl.bstR_yes {q r : Nat} (h : t.admB tv q r = true) : t.bstR tv q (r + 1) = max (t.bstR tv q r) (t.ownT tv r t.n) := by
  unfold Tbl.bstR
  rw [filter_range_succ, if_pos h, List.map_append, List.map_singleton, lmx_snoc]
theorem Tbl.bstR_no {q r : Nat} (h : t.admB tv q r = false) : t.bstR tv q (r + 1) = t.bstR tv q r := by
  unfold Tbl.bstR
  rw [filter_range_succ, if_neg (by simp [h]), List.append_nil]
theorem Tbl.adm_iff (h : t.Tv tv) {q r : Nat} (hq : q < t.n) (ha : t.admB tv q r = true) : t.R r r ∧ tv r = false ∧ (r = q ∨ t.R q r) := by
  simp only [Tbl.admB, Bool.and_eq_true, Bool.or_eq_true, decide_eq_true_eq, Tbl.nb_iff] at ha
  exact ⟨ha.1.1.1, ha.1.1.2, ha.1.2.imp id And.left⟩
theorem Tbl.tl_far (h : t.Tv tv) {r u : Nat} (hr : r < t.n) (htr : tv r = false) (hu : t.tlB tv r u = true) : t.R r u ∧ ¬ t.R u r ∧ u < t.n := by
  simp only [Tbl.tlB, Bool.and_eq_true, decide_eq_true_eq, Bool.not_eq_true', Tbl.nb_iff] at hu
  refine ⟨hu.1.2.1, fun h3 => ?_, hu.1.2.1.lt h.wf hr⟩
  have := (Tbl.nb_iff (t := t) (tv := tv) (q := u) (r := r)).2 ⟨h3, htr⟩
  rw [hu.2] at this; cases this
/-- smaller than at q -/
theorem Tbl.tl_mu (h : t.Tv tv) {q r u : Nat} (hq : q < t.n) (ha : t.admB tv q r = true) (hu : t.tlB tv r u = true) : t.mu u < t.mu q ∧ u < t.n := by
  obtain ⟨h1, h2, h3⟩ := Tbl.adm_iff h hq ha
  have hr : r < t.n := by
    rcases h3 with e | e
    · rw [e]; exact hq
    · exact e.lt h.wf hq
  obtain ⟨a, b, c⟩ := Tbl.tl_far h hr h2 hu
  exact ⟨Nat.lt_of_lt_of_le (Tbl.mu_lt hr a b) (Tbl.mu_mono h3), c⟩
theorem Tbl.mosD_eq (h : t.Tv tv) {q : Nat} (hq : q < t.n) : t.mosD tv q = t.bstR tv q t.n := by
  unfold Tbl.mosD Tbl.bstR
  rw [Tbl.mosF]
  congr 1
  refine List.map_congr_left fun r hr => ?_
  unfold Tbl.ownT
  congr 2
  refine List.map_congr_left fun u hu => ?_
  have h1 := Tbl.tl_mu h hq (List.mem_filter.1 hr).2 (List.mem_filter.1 hu).2
  have h2 := Tbl.mu_le (t := t) q
  exact Tbl.mos_eq h h1.2 (by omega) (by omega)
theorem Tbl.pasD_eq (h : t.Tv tv) {q : Nat} (hq : q < t.n) : t.pasD tv q = lmx ((t.outs tv q).map (t.pasD tv)) + if t.cyB tv q = true then 1 else 0 := by
  unfold Tbl.pasD
  rw [Tbl.pasF]
  congr 2
  refine List.map_congr_left fun u hu => ?_
  obtain ⟨a, b, c⟩ := Tbl.outs_far h hq hu
  have h1 := Tbl.mu_lt hq a b
  have h2 := Tbl.mu_le (t := t) q
  exact Tbl.pas_eq h c (by omega) (by omega)
theorem Tbl.outs_mu (h : t.Tv tv) {q u : Nat} (hq : q < t.n) (hu : u ∈ t.outs tv q) : t.mu u < t.mu q ∧ u < t.n := by
  obtain ⟨a, b, c⟩ := Tbl.outs_far h hq hu
  exact ⟨Tbl.mu_lt hq a b, c⟩
end
end Go.Proofs.Ythgkkaifdlkciaa

/- The activities of a finitary state end: no program in sight. -/
namespace Go.Proofs.Ythgkkaifdlkciaa
set_option linter.unusedVariables false
set_option linter.unusedSimpArgs false

theorem kndI_fin {m : Mch} {q : Nat} (h : (kndI m q).1 = 0) : degM (minM m) (m.tbl.num q) = 0 := by
  unfold kndI kndM at h
  split at h
  · simp at h
  · split at h
    · assumption
    · simp at h
theorem hits_pos {m : Mch} {r t : Nat} : ∀ x, hits m r t x ≠ 0 → ∃ y, y < x ∧ m.nn r y = t
  | 0, h => absurd rfl h
  | x + 1, h => by
    by_cases c : m.nn r x = t
    · exact ⟨x, by omega, c⟩
    · simp only [hits, if_neg c, Nat.add_zero] at h
      obtain ⟨y, hy, e⟩ := hits_pos x h
      exact ⟨y, by omega, e⟩
theorem inflow_pos {m : Mch} {p : Nat → Bool} {now : Nat → Nat} {t : Nat} : ∀ r, inflow m p now t r ≠ 0 → ∃ u, u < r ∧ now u ≠ 0 ∧ hits m u t m.l ≠ 0
  | 0, h => absurd rfl h
  | r + 1, h => by
    by_cases c : inflow m p now t r = 0
    · simp only [inflow, c, Nat.zero_add] at h
      split at h
      · refine ⟨r, by omega, fun e => h (by rw [e, Nat.zero_mul]), fun e => h (by rw [e, Nat.mul_zero])⟩
      · exact absurd rfl h
    · obtain ⟨u, hu, h1⟩ := inflow_pos r c
      exact ⟨u, by omega, h1⟩
theorem sumR_zero {m : Mch} {now : Nat → Nat} : ∀ r, (∀ t, t < r → trivB m t = false → now t = 0) → sumR m now r = 0
  | 0, _ => rfl
  | r + 1, h => by
    simp only [sumR]
    rw [sumR_zero r fun t ht => h t (by omega)]
    cases e : trivB m r with
    | true => simp
    | false => simp [h r (by omega) e]
section
variable {m : Mch} (hok : m.Ok) (hwf : m.Wf)
include hok hwf
theorem triv_num {q : Nat} (hq : q < m.s) : trivB (minM m) (m.tbl.num q) = trivB m q := by
  have hn : m.tbl.num q < (minM m).s := by rw [minM_s]; exact Tbl.num_lt (t := m.tbl) hq
  rw [Bool.eq_iff_iff, trivB_iff (minM_ok hok hwf) (minM_wf hok hwf) hn, trivB_iff hok hwf hq]
  exact ⟨fun h k => (trivK_num hok hwf k q hq).1 (h k), fun h k => (trivK_num hok hwf k q hq).2 (h k)⟩
theorem E_num {q x : Nat} (hq : q < m.s) (hx : x < m.l) : (minM m).tbl.E (m.tbl.num q) (m.tbl.num (m.nn q x)) := ⟨x, hx, (minM_num hok hwf hq hx).1⟩
theorem now_path {q : Nat} (hq : q < m.s) (hd : degM (minM m) (m.tbl.num q) = 0) : ∀ (k t : Nat), t < m.s → trivB m t = false → nowS m allB q k t ≠ 0 →
    (minM m).tbl.mu (m.tbl.num t) + k ≤ (minM m).tbl.mu (m.tbl.num q) ∧ (m.tbl.num t = m.tbl.num q ∨ (minM m).tbl.R (m.tbl.num q) (m.tbl.num t))
  | 0, t, ht, hn, h => by
    simp only [nowS] at h
    by_cases c : t = q
    · subst c; exact ⟨Nat.le_refl _, .inl rfl⟩
    · rw [if_neg c] at h; exact absurd rfl h
  | k + 1, t, ht, hn, h => by
    simp only [nowS, nxRow_at] at h
    obtain ⟨r, hr, h1, h2⟩ := inflow_pos _ h
    obtain ⟨x, hx, rfl⟩ := hits_pos _ h2
    have htv := minM_tv hok hwf
    have hrt : trivB m r = false := by
      cases e : trivB m r with
      | false => rfl
      | true =>
        have := (trivB_iff hok hwf ht).2 (((trivB_iff hok hwf hr).1 e).next hx)
        rw [this] at hn; cases hn
    obtain ⟨a1, a2⟩ := now_path hq hd k r hr hrt h1
    have he := E_num hok hwf hr hx
    have hrn : m.tbl.num r < (minM m).tbl.n := by show _ < (minM m).s; rw [minM_s]; exact Tbl.num_lt (t := m.tbl) hr
    have hqn : m.tbl.num q < (minM m).tbl.n := by show _ < (minM m).s; rw [minM_s]; exact Tbl.num_lt (t := m.tbl) hq
    have hno : ¬ (minM m).tbl.R (m.tbl.num (m.nn r x)) (m.tbl.num r) := fun hb => by
      have hc : (minM m).tbl.Ch (trivB (minM m)) 1 (m.tbl.num q) := ⟨m.tbl.num r, ⟨by rw [triv_num hok hwf hr]; exact hrt, (Tbl.R.one he).trans hb⟩, a2, .inl rfl⟩
      have hm := Tbl.pasF_mx htv ((minM m).s + 1) _ hqn (Nat.lt_succ_of_le (Tbl.mu_le (t := (minM m).tbl) _))
      have := hm.ge hc
      unfold degM at hd
      omega
    have := Tbl.mu_lt hrn (.one he) hno
    refine ⟨by omega, ?_⟩
    rcases a2 with e | e
    · rw [← e]; exact .inr (.one he)
    · exact .inr (e.snoc he)
/-- a finitary state is active nowhere at length 16 -/
theorem fin_zero {q : Nat} (hq : q < m.s) (h : (kndI m q).1 = 0) : sumR m (nowS m allB q 16) m.s = 0 := by
  refine sumR_zero _ fun t ht hn => ?_
  cases e : nowS m allB q 16 t with
  | zero => rfl
  | succ v =>
    have h1 := (now_path hok hwf hq (kndI_fin h) 16 t ht hn (by omega)).1
    have h2 : (minM m).tbl.mu (m.tbl.num q) ≤ 16 := Nat.le_trans (Tbl.mu_le (t := (minM m).tbl) _) (by show (minM m).s ≤ 16; exact (minM_ok hok hwf).s_le)
    have h3 : 0 < (minM m).tbl.mu (m.tbl.num t) := by
      have hmem : m.tbl.num t ∈ (List.range (minM m).tbl.n).filter fun r => decide (r = m.tbl.num t) || (minM m).tbl.rb (m.tbl.num t) r :=
        List.mem_filter.2 ⟨List.mem_range.2 (by show _ < (minM m).s; rw [minM_s]; exact Tbl.num_lt (t := m.tbl) ht), by simp⟩
      exact List.length_pos_of_mem hmem
    omega
end
end Go.Proofs.Ythgkkaifdlkciaa

/- What the laws of the kinds return. -/
namespace Go.Proofs.Ythgkkaifdlkciaa
open Go.RowKit
set_option linter.unusedVariables false
set_option linter.unusedSimpArgs false

noncomputable def kosL (m : Mch) (q : Int) : List Int := if codeP m q ⟨#[]⟩ = 0 then [(kndI m q.toNat).1, (kndI m q.toNat).2] else []
theorem kosL_len (m : Mch) (q : Int) : (kosL m q).length ≤ 100000 := by unfold kosL; split <;> simp
/-- not bounded by the state q -/
noncomputable def unbB (m : Mch) (q : Nat) : Bool := decide ((kndI m q).1 = 2) || decide (0 < (kndI m q).2)
noncomputable def ibI (m : Mch) : Bool × Int := if machP m = false then (false, 1) else ((List.range m.s).all fun q => !unbB m q, 0)
/-- the first length at which a state is not active -/
def fzN (m : Mch) (q : Nat) : Nat := ((List.range 17).find? fun k => sumR m (nowS m allB q k) m.s == 0).getD 0
noncomputable def dosI (m : Mch) (q : Int) : Int × Int := if codeP m q ⟨#[]⟩ ≠ 0 then (0, codeP m q ⟨#[]⟩) else if (kndI m q.toNat).1 ≠ 0 then (0, 5) else ((fzN m q.toNat : Int), 0)
theorem fz_spec {m : Mch} (hok : m.Ok) (hwf : m.Wf) {q : Nat} (hq : q < m.s) (h : (kndI m q).1 = 0) : fzN m q ≤ 16 ∧ sumR m (nowS m allB q (fzN m q)) m.s = 0 ∧ ∀ k, k < fzN m q → sumR m (nowS m allB q k) m.s ≠ 0 := by
  have h0 := fin_zero hok hwf hq h
  unfold fzN
  cases e : (List.range 17).find? fun k => sumR m (nowS m allB q k) m.s == 0 with
  | none =>
    rw [List.find?_eq_none] at e
    have := e 16 (by simp)
    simp [h0] at this
  | some k =>
    rw [List.find?_range_eq_some] at e
    simp only [Option.getD_some]
    have h1 := e.1
    have h2 : k < 17 := by simpa using e.2.1
    refine ⟨by omega, by simpa using h1, fun j hj => by simpa using e.2.2 j hj⟩
theorem acts_get {m : Mch} {q n k : Nat} (h : k < n) : (acts m q n)[k]?.getD 0 = (sumR m (nowS m allB q k) m.s : Int) := by simp [acts, h]
theorem acts_len (m : Mch) (q n : Nat) : (acts m q n).length = n := by simp [acts]

/-! memory without one block -/
/-- a world in which the block D holds nothing -/
def cutD (w : World) (D : Nat) : World := { w with heap := w.heap.setIfInBounds D (.cells #[] 0 (0, 0)) }
theorem cutD_size (w : World) (D : Nat) : (cutD w D).heap.size = w.heap.size := by simp [cutD]
theorem cutD_block {w : World} {D b : Nat} (h : b ≠ D) : (cutD w D).heap[b]? = w.heap[b]? := by
  simp only [cutD]
  rw [Array.getElem?_setIfInBounds_ne (Ne.symm h)]
theorem cutD_at {w : World} {D : Nat} : (cutD w D).heap[D]? = none ∨ (cutD w D).heap[D]? = some (.cells #[] 0 (0, 0)) := by
  simp only [cutD]
  by_cases h : D < w.heap.size
  · right; rw [Array.getElem?_setIfInBounds_self_of_lt h]
  · left; rw [Array.getElem?_eq_none (by simp; omega)]
theorem cutD_cell {w : World} {D : Nat} {a : Addr} {v : Value} (h : (cutD w D).cell? a = some v) : w.cell? a = some v := by
  by_cases e : a.block = D
  · exfalso
    subst e
    rcases cutD_at (w := w) (D := a.block) with h1 | h1
    · have h2 := World.block_lt_of_cell? _ _ h
      rw [Array.getElem?_eq_getElem h2] at h1; cases h1
    · unfold World.cell? at h
      rw [h1] at h
      simp at h
  · exact (World.cell?_of_block (w := w) (a := a) (cutD_block e)) ▸ h
theorem cutD_of {w : World} {D : Nat} {a : Addr} {v : Value} (h : w.cell? a = some v) (e : a.block ≠ D) : (cutD w D).cell? a = some v := by
  have := World.cell?_of_block (w := w) (w' := cutD w D) (a := a) (cutD_block e)
  rw [this]; exact h
theorem cutD_below {w w' : World} {D : Nat} (hs : w.heap.size ≤ w'.heap.size) (ho : w'.os = w.os) (ht : w'.tape = w.tape) (hu : w'.output = w.output) (hb : ∀ b, b < w.heap.size → b ≠ D → w'.heap[b]? = w.heap[b]?) (hD : D < w.heap.size) : Below (cutD w D).heap.size (cutD w D) (cutD w' D) := by
  refine ⟨ho, ht, hu, by rw [cutD_size, cutD_size]; exact hs, fun b h => ?_⟩
  rw [cutD_size] at h
  by_cases e : b = D
  · subst e
    simp only [cutD]
    rw [Array.getElem?_setIfInBounds_self_of_lt h, Array.getElem?_setIfInBounds_self_of_lt (by omega)]
  · rw [cutD_block e, cutD_block e]; exact hb b h e
end Go.Proofs.Ythgkkaifdlkciaa
