/- Trivial states: no program in sight. -/
import Derived.Test.YtmacnofkpdikiaaN
namespace Go.Proofs.Ytmacnofkpdikiaa
set_option linter.unusedVariables false
set_option linter.unusedSimpArgs false

/-- q leads the words of at most r letters to themselves -/
def trivK (m : Mch) : Nat → Nat → Bool
  | 0, _ => true
  | r + 1, q => (List.range m.l).all fun x => m.on q x == x && trivK m r (m.nn q x)
def Triv (m : Mch) (q : Nat) : Prop := ∀ r, trivK m r q = true
def trivB (m : Mch) (q : Nat) : Bool := decide (q < m.s) && trivK m m.s q

theorem trivK_succ {m : Mch} {r q : Nat} : trivK m (r + 1) q = true ↔ ∀ x, x < m.l → m.on q x = x ∧ trivK m r (m.nn q x) = true := by
  simp [trivK, List.all_eq_true]
theorem trivK_mono {m : Mch} : ∀ (r q : Nat), trivK m (r + 1) q = true → trivK m r q = true
  | 0, q, _ => rfl
  | r + 1, q, h => by
    rw [trivK_succ] at h ⊢
    exact fun x hx => ⟨(h x hx).1, trivK_mono r _ (h x hx).2⟩
theorem trivK_le {m : Mch} {q : Nat} : ∀ (d r : Nat), trivK m (r + d) q = true → trivK m r q = true
  | 0, r, h => h
  | d + 1, r, h => trivK_le d r (trivK_mono _ _ h)
theorem Triv.out {m : Mch} {q : Nat} (h : Triv m q) {x : Nat} (hx : x < m.l) : m.on q x = x := (trivK_succ.1 (h 1) x hx).1
theorem Triv.next {m : Mch} {q : Nat} (h : Triv m q) {x : Nat} (hx : x < m.l) : Triv m (m.nn q x) := fun r => (trivK_succ.1 (h (r + 1)) x hx).2

/-- whatever set of states keeps all letters and is closed is trivial -/
theorem triv_of_closed {m : Mch} (hok : m.Ok) (hwf : m.Wf) (p : Nat → Bool) (h : ∀ q, q < m.s → p q = true → ∀ x, x < m.l → m.on q x = x ∧ p (m.nn q x) = true) :
    ∀ q, q < m.s → p q = true → Triv m q := fun q hq hp r => by
  induction r generalizing q with
  | zero => rfl
  | succ r ih =>
    rw [trivK_succ]
    exact fun x hx => ⟨(h q hq hp x hx).1, ih _ (hok.nn_lt hwf hq hx) (h q hq hp x hx).2⟩

/-- how many states lead the words of r letters to themselves -/
def cntK (m : Mch) (r : Nat) : Nat := ((List.range m.s).filter fun q => trivK m r q).length

theorem filter_len_lt {p p' : Nat → Bool} : ∀ (l : List Nat), (∀ q ∈ l, p' q = true → p q = true) → (∃ q ∈ l, p q = true ∧ p' q = false) → (l.filter p').length < (l.filter p).length
  | [], _, ⟨q, hq, _⟩ => by simp at hq
  | a :: t, h, ⟨q, hq, h1, h2⟩ => by
    have hle : (t.filter p').length ≤ (t.filter p).length := by
      clear hq h1 h2
      induction t with
      | nil => simp
      | cons b t ih =>
        have := ih (fun q hq => h q (by simp only [List.mem_cons] at hq ⊢; rcases hq with rfl | hq <;> simp [*]))
        have hb := h b (by simp)
        simp only [List.filter_cons]
        cases e : p' b <;> cases e2 : p b <;> simp_all <;> omega
    have ha := h a (by simp)
    simp only [List.mem_cons] at hq
    simp only [List.filter_cons]
    rcases hq with rfl | hq
    · simp [h1, h2]; omega
    · have := filter_len_lt t (fun q hq => h q (by simp [hq])) ⟨q, hq, h1, h2⟩
      cases e : p' a <;> cases e2 : p a <;> simp_all <;> omega

theorem cntK_lt {m : Mch} {r : Nat} (h : ∃ q, q < m.s ∧ trivK m r q = true ∧ trivK m (r + 1) q = false) : cntK m (r + 1) < cntK m r := by
  obtain ⟨q, hq, h1, h2⟩ := h
  exact filter_len_lt _ (fun q _ => trivK_mono r q) ⟨q, by simpa using hq, h1, h2⟩
theorem cntK_zero (m : Mch) : cntK m 0 = m.s := by
  have : (List.range m.s).filter (fun q => trivK m 0 q) = List.range m.s := List.filter_eq_self.2 (fun _ _ => rfl)
  rw [cntK, this, List.length_range]
/-- a round that turns nothing: all is done -/
theorem triv_of_still {m : Mch} (hok : m.Ok) (hwf : m.Wf) {r : Nat} (h : ∀ q, q < m.s → trivK m r q = true → trivK m (r + 1) q = true) {q : Nat} (hq : q < m.s) (hp : trivK m r q = true) : Triv m q :=
  triv_of_closed hok hwf (trivK m r) (fun q hq hp => trivK_succ.1 (h q hq hp)) q hq hp

theorem still_or {m : Mch} : ∀ r, (∃ k, k ≤ r ∧ ∀ q, q < m.s → trivK m k q = true → trivK m (k + 1) q = true) ∨ cntK m (r + 1) + (r + 1) ≤ m.s
  | 0 => by
    by_cases h : ∃ q, q < m.s ∧ trivK m 0 q = true ∧ trivK m (0 + 1) q = false
    · have := cntK_lt h
      have := cntK_zero m
      right; omega
    · left
      refine ⟨0, Nat.le_refl _, fun q hq hp => ?_⟩
      cases e : trivK m (0 + 1) q
      · exact absurd ⟨q, hq, hp, e⟩ h
      · rfl
  | r + 1 => by
    rcases still_or (m := m) r with ⟨k, hk, h⟩ | h0
    · exact .inl ⟨k, by omega, h⟩
    · by_cases h : ∃ q, q < m.s ∧ trivK m (r + 1) q = true ∧ trivK m (r + 1 + 1) q = false
      · have := cntK_lt h
        right; omega
      · left
        refine ⟨r + 1, Nat.le_refl _, fun q hq hp => ?_⟩
        cases e : trivK m (r + 1 + 1) q
        · exact absurd ⟨q, hq, hp, e⟩ h
        · rfl

theorem triv_of_many {m : Mch} (hok : m.Ok) (hwf : m.Wf) {q : Nat} (hq : q < m.s) (h : trivK m m.s q = true) : Triv m q := by
  rcases still_or (m := m) m.s with ⟨k, hk, hs⟩ | h0
  · exact triv_of_still hok hwf hs hq (trivK_le (m.s - k) k (by rw [show k + (m.s - k) = m.s by omega]; exact h))
  · omega
theorem trivB_iff {m : Mch} (hok : m.Ok) (hwf : m.Wf) {q : Nat} (hq : q < m.s) : trivB m q = true ↔ Triv m q := by
  simp only [trivB, Bool.and_eq_true, decide_eq_true_eq]
  exact ⟨fun h => triv_of_many hok hwf hq h.2, fun h => ⟨hq, h _⟩⟩

/-! The reference's rounds: it writes into the list that it reads. -/
structure TInv (m : Mch) (tv : Nat → Bool) (r : Nat) : Prop where
  keep : ∀ q, q < m.s → Triv m q → tv q = true
  tells : ∀ q, q < m.s → tv q = true → trivK m r q = true
  none : ∀ q, m.s ≤ q → tv q = false
def upd (tv : Nat → Bool) (j : Nat) (b : Bool) : Nat → Bool := fun q => if q = j then b else tv q
structure TInv2 (m : Mch) (tv : Nat → Bool) (r j : Nat) : Prop extends TInv m tv r where
  done : ∀ q, q < j → q < m.s → tv q = true → trivK m (r + 1) q = true
structure TInv3 (m : Mch) (tv : Nat → Bool) (r j x : Nat) : Prop extends TInv2 m tv r j where
  part : tv j = true → ∀ y, y < x → m.on j y = y ∧ trivK m r (m.nn j y) = true

theorem TInv.start {m : Mch} {tv : Nat → Bool} (h1 : ∀ q, q < m.s → tv q = true) (h2 : ∀ q, m.s ≤ q → tv q = false) : TInv m tv 0 := ⟨fun q hq _ => h1 q hq, fun _ _ _ => rfl, h2⟩
theorem TInv.begin {m : Mch} {tv : Nat → Bool} {r : Nat} (h : TInv m tv r) : TInv2 m tv r 0 := ⟨h, fun q hq => by omega⟩
theorem TInv2.begin {m : Mch} {tv : Nat → Bool} {r j : Nat} (h : TInv2 m tv r j) : TInv3 m tv r j 0 := ⟨h, fun _ y hy => by omega⟩
theorem TInv3.step {m : Mch} (hok : m.Ok) (hwf : m.Wf) {tv : Nat → Bool} {r j x : Nat} (hj : j < m.s) (hx : x < m.l) (h : TInv3 m tv r j x) {b : Bool} (hb : b = (tv j && (m.on j x == x) && tv (m.nn j x))) :
    TInv3 m (upd tv j b) r j (x + 1) := by
  have hle : ∀ q, upd tv j b q = true → tv q = true := fun q hq => by
    simp only [upd] at hq
    split at hq
    · rename_i e; rw [hb, Bool.and_eq_true, Bool.and_eq_true] at hq; rw [e]; exact hq.1.1
    · exact hq
  refine ⟨⟨⟨fun q hq ht => ?_, fun q hq ht => h.tells q hq (hle q ht), fun q hq => ?_⟩, fun q hqj hq ht => ?_⟩, fun ht y hy => ?_⟩
  · simp only [upd]
    split
    · rename_i e; subst e
      rw [hb, h.keep q hq ht, ht.out hx, h.keep _ (hok.nn_lt hwf hq hx) (ht.next hx)]; simp
    · exact h.keep q hq ht
  · simp only [upd]
    rw [if_neg (by omega)]
    exact h.none q hq
  · exact h.done q hqj hq (hle q ht)
  · have hb1 : b = true := by simpa [upd] using ht
    rw [hb, Bool.and_eq_true, Bool.and_eq_true, beq_iff_eq] at hb1
    by_cases e : y = x
    · subst e; exact ⟨hb1.1.2, h.tells _ (hok.nn_lt hwf hj hx) hb1.2⟩
    · exact h.part hb1.1.1 y (by omega)
theorem TInv3.fin {m : Mch} {tv : Nat → Bool} {r j : Nat} (h : TInv3 m tv r j m.l) : TInv2 m tv r (j + 1) := ⟨h.toTInv, fun q hqj hq ht => by
  by_cases e : q = j
  · subst e; rw [trivK_succ]; exact h.part ht
  · exact h.done q (by omega) hq ht⟩
theorem TInv2.fin {m : Mch} {tv : Nat → Bool} {r : Nat} (h : TInv2 m tv r m.s) : TInv m tv (r + 1) := ⟨h.keep, fun q hq ht => h.done q hq hq ht, h.none⟩
theorem TInv.fin {m : Mch} (hok : m.Ok) (hwf : m.Wf) {tv : Nat → Bool} {r : Nat} (hr : m.s ≤ r) (h : TInv m tv r) : tv = trivB m := by
  funext q
  by_cases hq : q < m.s
  · rw [Bool.eq_iff_iff, trivB_iff hok hwf hq]
    exact ⟨fun ht => triv_of_many hok hwf hq (trivK_le (r - m.s) m.s (by rw [show m.s + (r - m.s) = r by omega]; exact h.tells q hq ht)), h.keep q hq⟩
  · rw [h.none q (by omega)]
    simp [trivB, hq]

end Go.Proofs.Ytmacnofkpdikiaa
