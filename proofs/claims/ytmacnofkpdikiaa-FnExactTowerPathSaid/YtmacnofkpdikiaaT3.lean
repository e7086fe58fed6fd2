/- Activities: no program in sight. -/
import Derived.Test.YtmacnofkpdikiaaT
namespace Go.Proofs.Ytmacnofkpdikiaa
set_option linter.unusedVariables false
set_option linter.unusedSimpArgs false

def updN (f : Nat → Nat) (j v : Nat) : Nat → Nat := fun q => if q = j then v else f q
/-- x letters of state r done -/
def nxX (m : Mch) (now : Nat → Nat) (r : Nat) : Nat → (Nat → Nat) → Nat → Nat
  | 0, f => f
  | x + 1, f => updN (nxX m now r x f) (m.nn r x) (nxX m now r x f (m.nn r x) + now r)
/-- r states done, those that p lets in -/
def nxRow (m : Mch) (p : Nat → Bool) (now : Nat → Nat) : Nat → Nat → Nat
  | 0 => fun _ => 0
  | r + 1 => if p r then nxX m now r m.l (nxRow m p now r) else nxRow m p now r
def sumR (m : Mch) (now : Nat → Nat) : Nat → Nat
  | 0 => 0
  | r + 1 => sumR m now r + (if trivB m r then 0 else now r)
def nowS (m : Mch) (p : Nat → Bool) (q : Nat) : Nat → Nat → Nat
  | 0 => fun r => if r = q then 1 else 0
  | k + 1 => nxRow m p (nowS m p q k) m.s
/-- the states that are not trivial -/
def ntB (m : Mch) (r : Nat) : Bool := !trivB m r
def allB (r : Nat) : Bool := true
def acts (m : Mch) (q n : Nat) : List Int := (List.range n).map fun k => (sumR m (nowS m allB q k) m.s : Int)

/-- how often r goes on to t by its first x letters -/
def hits (m : Mch) (r t : Nat) : Nat → Nat
  | 0 => 0
  | x + 1 => hits m r t x + if m.nn r x = t then 1 else 0
theorem nxX_at (m : Mch) (now : Nat → Nat) (r t : Nat) (f : Nat → Nat) : ∀ x, nxX m now r x f t = f t + now r * hits m r t x
  | 0 => by simp [nxX, hits]
  | x + 1 => by
    simp only [nxX, updN, hits]
    by_cases h : t = m.nn r x
    · rw [if_pos h, if_pos h.symm, ← h, nxX_at m now r t f x, Nat.mul_add, Nat.mul_one]; omega
    · rw [if_neg h, if_neg (Ne.symm h), nxX_at m now r t f x]; simp
def inflow (m : Mch) (p : Nat → Bool) (now : Nat → Nat) (t : Nat) : Nat → Nat
  | 0 => 0
  | r + 1 => inflow m p now t r + if p r then now r * hits m r t m.l else 0
theorem nxRow_at (m : Mch) (p : Nat → Bool) (now : Nat → Nat) (t : Nat) : ∀ r, nxRow m p now r t = inflow m p now t r
  | 0 => rfl
  | r + 1 => by
    simp only [nxRow, inflow]
    split
    · rw [nxX_at, nxRow_at m p now t r]
    · rw [nxRow_at m p now t r]; rfl
theorem hits_zero {m : Mch} {r t : Nat} : ∀ x, (∀ y, y < x → m.nn r y ≠ t) → hits m r t x = 0
  | 0, _ => rfl
  | x + 1, h => by simp only [hits]; rw [hits_zero x (fun y hy => h y (by omega)), if_neg (h x (by omega))]
theorem nowS_eq {m : Mch} (hok : m.Ok) (hwf : m.Wf) (q : Nat) : ∀ k t, t < m.s → trivB m t = false → nowS m (ntB m) q k t = nowS m allB q k t
  | 0, _, _, _ => rfl
  | k + 1, t, ht, hn => by
    simp only [nowS, nxRow_at]
    have : ∀ r, r ≤ m.s → inflow m (ntB m) (nowS m (ntB m) q k) t r = inflow m allB (nowS m allB q k) t r := by
      intro r
      induction r with
      | zero => intro _; rfl
      | succ r ih =>
        intro hr
        simp only [inflow]
        rw [ih (by omega)]
        congr 1
        by_cases e : trivB m r = true
        · have hz : hits m r t m.l = 0 := hits_zero _ fun y hy h => by
            have h1 := ((trivB_iff hok hwf (by omega)).1 e).next hy
            rw [h] at h1
            rw [(trivB_iff hok hwf ht).2 h1] at hn; cases hn
          simp [ntB, allB, e, hz]
        · have e' : trivB m r = false := by simpa using e
          simp only [ntB, allB, e', Bool.not_false, if_true]
          rw [nowS_eq hok hwf q k r (by omega) e']
    exact this m.s (Nat.le_refl _)
theorem sumR_eq {m : Mch} {f g : Nat → Nat} (h : ∀ t, t < m.s → trivB m t = false → f t = g t) : ∀ r, r ≤ m.s → sumR m f r = sumR m g r
  | 0, _ => rfl
  | r + 1, hr => by
    simp only [sumR]
    rw [sumR_eq h r (by omega)]
    by_cases e : trivB m r = true
    · simp [e]
    · have e' : trivB m r = false := by simpa using e
      rw [h r (by omega) e']

/-! Bounds -/
def tot (f : Nat → Nat) : Nat → Nat
  | 0 => 0
  | r + 1 => tot f r + f r
theorem tot_upd (f : Nat → Nat) (j v : Nat) : ∀ n, j < n → tot (updN f j (f j + v)) n = tot f n + v
  | 0, h => by omega
  | n + 1, h => by
    simp only [tot]
    by_cases e : j = n
    · subst e
      have : ∀ i, i ≤ j → tot (updN f j (f j + v)) i = tot f i := by
        intro i; induction i with
        | zero => intro _; rfl
        | succ i ih => intro hi; simp only [tot]; rw [ih (by omega)]; congr 1; simp only [updN]; rw [if_neg (by omega)]
      rw [this j (Nat.le_refl _)]; simp [updN]; omega
    · rw [tot_upd f j v n (by omega)]
      have : updN f j (f j + v) n = f n := by simp only [updN]; rw [if_neg (by omega)]
      omega
theorem le_tot (f : Nat → Nat) : ∀ n t, t < n → f t ≤ tot f n
  | n + 1, t, h => by
    simp only [tot]
    by_cases e : t = n
    · subst e; omega
    · have := le_tot f n t (by omega); omega
theorem tot_nxX {m : Mch} (hok : m.Ok) (hwf : m.Wf) (now f : Nat → Nat) {r : Nat} (hr : r < m.s) : ∀ x, x ≤ m.l → tot (nxX m now r x f) m.s = tot f m.s + now r * x
  | 0, _ => by simp [nxX]
  | x + 1, hx => by
    simp only [nxX]
    rw [tot_upd _ _ _ _ (hok.nn_lt hwf hr (by omega)), tot_nxX hok hwf now f hr x (by omega), Nat.mul_add, Nat.mul_one]; omega
theorem tot_nxRow {m : Mch} (hok : m.Ok) (hwf : m.Wf) (p : Nat → Bool) (now : Nat → Nat) : ∀ r, r ≤ m.s → tot (nxRow m p now r) m.s ≤ m.l * tot now r
  | 0, _ => by
    have : ∀ n, tot (fun _ => 0) n = 0 := fun n => by induction n with | zero => rfl | succ n ih => simp [tot, ih]
    simp [nxRow, this, tot]
  | r + 1, hr => by
    have ih := tot_nxRow hok hwf p now r (by omega)
    simp only [nxRow, tot, Nat.mul_add]
    split
    · rw [tot_nxX hok hwf now _ (by omega) m.l (Nat.le_refl _), Nat.mul_comm (now r)]; omega
    · omega
theorem tot_mono (f : Nat → Nat) : ∀ n d, tot f n ≤ tot f (n + d)
  | n, 0 => Nat.le_refl _
  | n, d + 1 => by have := tot_mono f n d; rw [← Nat.add_assoc]; simp only [tot]; omega
theorem tot_nowS {m : Mch} (hok : m.Ok) (hwf : m.Wf) (p : Nat → Bool) {q : Nat} (hq : q < m.s) : ∀ k, tot (nowS m p q k) m.s ≤ 3 ^ k
  | 0 => by
    have : ∀ n, tot (fun r => if r = q then 1 else 0) n = if q < n then 1 else 0 := fun n => by
      induction n with
      | zero => rfl
      | succ n ih =>
        simp only [tot, ih]
        repeat' split
        all_goals omega
    simp only [nowS, this]; split <;> simp
  | k + 1 => by
    simp only [nowS, Nat.pow_succ]
    have h1 := tot_nxRow hok hwf p (nowS m p q k) m.s (Nat.le_refl _)
    have h2 := tot_nowS hok hwf p hq k
    have h3 := hok.l_le
    have := Nat.mul_le_mul h3 h2
    omega
theorem pow3 {k : Nat} (hk : k ≤ 21) : 3 ^ k ≤ 10460353203 := by
  have := Nat.pow_le_pow_right (n := 3) (by omega) hk
  simpa using this
theorem sumR_le (m : Mch) (now : Nat → Nat) : ∀ r, sumR m now r ≤ tot now r
  | 0 => Nat.le_refl _
  | r + 1 => by have := sumR_le m now r; simp only [sumR, tot]; split <;> omega
end Go.Proofs.Ytmacnofkpdikiaa
