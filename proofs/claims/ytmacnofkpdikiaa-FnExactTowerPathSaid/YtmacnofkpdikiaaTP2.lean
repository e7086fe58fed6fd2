/- Distances and the least of the shortest paths; words of three letters. -/
import Derived.Test.YtmacnofkpdikiaaTP1
import Derived.Test.YtmacnofkpdikiaaV3
namespace Go.Proofs.Ytmacnofkpdikiaa
set_option linter.unusedVariables false
set_option linter.unusedSimpArgs false
set_option linter.unusedSectionVars false

theorem pow3_odd (l : Nat) : 3 ^ l % 2 = 1 := by
  induction l with
  | zero => rfl
  | succ l ih => rw [Nat.pow_succ]; omega
theorem gLen_bounds : ∀ e, 3 ^ gLen e ≤ 2 * e + 1 ∧ 2 * e + 1 < 3 ^ (gLen e + 1) := fun e => by
  induction e using Nat.strongRecOn with
  | _ e ih =>
    cases e with
    | zero => rw [gLen_zero]; exact ⟨by decide, by decide⟩
    | succ e =>
      rw [gLen_succ]
      obtain ⟨h1, h2⟩ := ih (e / 3) (by omega)
      have o1 := pow3_odd (gLen (e / 3) + 1)
      rw [Nat.pow_succ 3 (gLen (e / 3) + 1)]
      rw [Nat.pow_succ] at h2 o1 ⊢
      generalize 3 ^ gLen (e / 3) = P at *
      exact ⟨by omega, by omega⟩

section
variable {α : Type} [DecidableEq α] {nb : Nat → α → α}
/-- the first path from w to v -/
def Fst (nb : Nat → α → α) (w v : α) (E : Nat) : Prop := gAt nb w E = v ∧ isF nb w E = true
theorem Fst.le {w v : α} {E e : Nat} (h : Fst nb w v E) (he : gAt nb w e = v) : E ≤ e := by
  rcases Nat.lt_or_ge e E with hlt | hge
  · exact absurd (he.trans h.1.symm) (isF_iff.1 h.2 e hlt)
  · exact hge
theorem Fst.of {w v : α} {e : Nat} (he : gAt nb w e = v) : ∃ E, Fst nb w v E := by
  obtain ⟨E, _, h2, h3⟩ := first_of (nb := nb) w e
  exact ⟨E, h2.trans he, h3⟩
theorem Fst.uniq {w v : α} {E E' : Nat} (h : Fst nb w v E) (h' : Fst nb w v E') : E = E' := Nat.le_antisymm (h.le h'.1) (h'.le h.1)
theorem gAt_ok {ok : α → Prop} (hok : ∀ k u, k < 3 → ok u → ok (nb k u)) {w : α} (hw : ok w) : ∀ e, ok (gAt nb w e) := fun e => by
  induction e using Nat.strongRecOn with
  | _ e ih =>
    cases e with
    | zero => rw [gAt_zero]; exact hw
    | succ e => rw [gAt_succ]; exact hok _ _ (Nat.mod_lt _ (by omega)) (ih (e / 3) (by omega))
theorem gAt_back {ok : α → Prop} (hok : ∀ k u, k < 3 → ok u → ok (nb k u)) (hinv : ∀ k u, k < 3 → ok u → nb k (nb k u) = u) {w : α} (hw : ok w) : ∀ e, ∃ e', gLen e' = gLen e ∧ gAt nb (gAt nb w e) e' = w := fun e => by
  induction e using Nat.strongRecOn with
  | _ e ih =>
    cases e with
    | zero => exact ⟨0, rfl, by rw [gAt_zero, gAt_zero]⟩
    | succ e =>
      obtain ⟨e', h1, h2⟩ := ih (e / 3) (by omega)
      have hk : e % 3 < 3 := Nat.mod_lt _ (by omega)
      refine ⟨gCat (e % 3 + 1) e', ?_, ?_⟩
      · rw [gLen_cat, gLen_one hk, gLen_succ, h1]; omega
      · rw [gAt_cat, g_one _ hk, gAt_succ, hinv _ _ hk (gAt_ok hok hw _), h2]
theorem Fst.sym {ok : α → Prop} (hok : ∀ k u, k < 3 → ok u → ok (nb k u)) (hinv : ∀ k u, k < 3 → ok u → nb k (nb k u) = u) {w v : α} (hw : ok w) (hv : ok v) {E E' : Nat} (h : Fst nb w v E) (h' : Fst nb v w E') : gLen E = gLen E' := by
  obtain ⟨e1, l1, a1⟩ := gAt_back hok hinv hw E
  obtain ⟨e2, l2, a2⟩ := gAt_back hok hinv hv E'
  rw [h.1] at a1
  rw [h'.1] at a2
  have := gLen_mono (h'.le a1)
  have := gLen_mono (h.le a2)
  omega
/-- there is a move that comes nearer -/
theorem Fst.near {u v : α} {E : Nat} (h : Fst nb u v E) (hne : u ≠ v) : ∃ k x, k < 3 ∧ E = gCat (k + 1) x ∧ gAt nb (nb k u) x = v := by
  have hE : 0 < E := by
    rcases Nat.eq_zero_or_pos E with e | e
    · subst e; exact absurd (by rw [← h.1, gAt_zero]) hne
    · exact e
  obtain ⟨k, x, hk, rfl⟩ := g_head E hE
  refine ⟨k, x, hk, rfl, ?_⟩
  have := h.1
  rwa [gAt_cat, g_one _ hk] at this
/-- the least move that comes nearer is the first one of the least path -/
theorem Fst.step {u v : α} {E E1 k : Nat} (h : Fst nb u v E) (hne : u ≠ v) (hk : k < 3) (h1 : Fst nb (nb k u) v E1) (hlt : gLen E1 < gLen E)
    (hlow : ∀ k', k' < k → ∀ x, gAt nb (nb k' u) x = v → gLen E ≤ gLen x) : E = gCat (k + 1) E1 := by
  have hc : gAt nb u (gCat (k + 1) E1) = v := by rw [gAt_cat, g_one _ hk, h1.1]
  have hle := h.le hc
  obtain ⟨k2, x, hk2, rfl, hx⟩ := h.near hne
  have e1 : gLen (gCat (k2 + 1) x) = 1 + gLen x := by rw [gLen_cat, gLen_one hk2]
  have e2 : gLen (gCat (k + 1) E1) = 1 + gLen E1 := by rw [gLen_cat, gLen_one hk]
  have hm := gLen_mono hle
  have hl : gLen x = gLen E1 := by omega
  have hk3 : k ≤ k2 := by
    rcases Nat.lt_or_ge k2 k with hh | hh
    · have := hlow k2 hh x hx; omega
    · exact hh
  rw [gCat_eq, gCat_eq, hl] at hle
  have b1 := gLen_bounds x
  have b2 := gLen_bounds E1
  rw [hl] at b1
  rw [Nat.pow_succ] at b1 b2
  rw [gCat_eq, gCat_eq, hl]
  generalize 3 ^ gLen E1 = P at *
  have hkk : k2 = k := by
    rcases Nat.lt_or_ge k k2 with hh | hh
    · exfalso
      have : (k + 2) * P ≤ (k2 + 1) * P := Nat.mul_le_mul_right P (by omega)
      have e3 : (k + 2) * P = (k + 1) * P + P := by rw [show k + 2 = (k + 1) + 1 by omega, Nat.add_mul]; omega
      omega
    · omega
  subst hkk
  have := h1.le hx
  omega
end

/-! words -/
def px : Nat → Int
  | 0 => 48
  | 1 => 48
  | _ => 49
def py : Nat → Int
  | 0 => 49
  | 1 => 50
  | _ => 50
def nbL (k : Nat) (l : List Int) : List Int := movB (px k) (py k) l
def nbS (k : Nat) (s : ByteArray) : ByteArray := movS (px k) (py k) s
def LV (l : List Int) : Prop := ∀ c ∈ l, c = 48 ∨ c = 49 ∨ c = 50
theorem movB_inv {x y : Int} (hxy : x ≠ y) : ∀ l : List Int, movB x y (movB x y l) = l
  | [] => rfl
  | c :: t => by
    simp only [movB]
    by_cases h1 : c = x
    · rw [if_pos h1, movB, if_neg (Ne.symm hxy), if_pos rfl, h1]
    · by_cases h2 : c = y
      · rw [if_neg h1, if_pos h2, movB, if_pos rfl, h2]
      · rw [if_neg h1, if_neg h2, movB, if_neg h1, if_neg h2, movB_inv hxy t]
theorem movB_len {x y : Int} : ∀ l : List Int, (movB x y l).length = l.length
  | [] => rfl
  | c :: t => by
    simp only [movB]
    split
    · rfl
    · split
      · rfl
      · simp [movB_len t]
theorem movB_mem {x y : Int} {P : Int → Prop} (hx : P x) (hy : P y) : ∀ l : List Int, (∀ c ∈ l, P c) → ∀ c ∈ movB x y l, P c
  | [], _, c, h => by simp [movB] at h
  | d :: t, hp, c, h => by
    simp only [movB] at h
    have ht : ∀ c ∈ t, P c := fun c hc => hp c (List.mem_cons_of_mem _ hc)
    split at h
    · rcases List.mem_cons.1 h with rfl | h
      · exact hy
      · exact ht c h
    · split at h
      · rcases List.mem_cons.1 h with rfl | h
        · exact hx
        · exact ht c h
      · rcases List.mem_cons.1 h with rfl | h
        · exact hp _ (List.mem_cons_self ..)
        · exact movB_mem hx hy t ht c h
theorem pxy_ne (k : Nat) : px k ≠ py k := by unfold px py; split <;> decide
theorem nbL_LV {k : Nat} {l : List Int} (h : LV l) : LV (nbL k l) := movB_mem (P := fun c => c = 48 ∨ c = 49 ∨ c = 50) (by unfold px; split <;> decide) (by unfold py; split <;> decide) l h
theorem nbL_inv (k : Nat) (l : List Int) : nbL k (nbL k l) = l := movB_inv (pxy_ne k) l
theorem nbL_len (k : Nat) (l : List Int) : (nbL k l).length = l.length := movB_len l

/-- the first letter onto another peg -/
theorem head_reach (t : List Int) {c c' : Int} (h : c = 48 ∨ c = 49 ∨ c = 50) (h' : c' = 48 ∨ c' = 49 ∨ c' = 50) : ∃ e, gAt nbL (c :: t) e = c' :: t := by
  have one : ∀ (k : Nat), k < 3 → nbL k (c :: t) = c' :: t → ∃ e, gAt nbL (c :: t) e = c' :: t := fun k hk e => ⟨k + 1, by rw [g_one _ hk, e]⟩
  rcases h with rfl | rfl | rfl <;> rcases h' with rfl | rfl | rfl
  · exact ⟨0, gAt_zero _⟩
  · exact one 0 (by omega) (by simp [nbL, movB, px, py])
  · exact one 1 (by omega) (by simp [nbL, movB, px, py])
  · exact one 0 (by omega) (by simp [nbL, movB, px, py])
  · exact ⟨0, gAt_zero _⟩
  · exact one 2 (by omega) (by simp [nbL, movB, px, py])
  · exact one 1 (by omega) (by simp [nbL, movB, px, py])
  · exact one 2 (by omega) (by simp [nbL, movB, px, py])
  · exact ⟨0, gAt_zero _⟩
/-- the letter that move k leaves -/
theorem third (k : Nat) (hk : k < 3) (t : List Int) : ∃ z, (z = 48 ∨ z = 49 ∨ z = 50) ∧ nbL k (z :: t) = z :: nbL k t := by
  rcases (by omega : k = 0 ∨ k = 1 ∨ k = 2) with rfl | rfl | rfl
  · exact ⟨50, by decide, by simp [nbL, movB, px, py]⟩
  · exact ⟨49, by decide, by simp [nbL, movB, px, py]⟩
  · exact ⟨48, by decide, by simp [nbL, movB, px, py]⟩
theorem reach_trans {a b c : List Int} (h1 : ∃ e, gAt nbL a e = b) (h2 : ∃ e, gAt nbL b e = c) : ∃ e, gAt nbL a e = c := by
  obtain ⟨e1, rfl⟩ := h1
  obtain ⟨e2, rfl⟩ := h2
  exact ⟨gCat e1 e2, gAt_cat _ _ _⟩
theorem lift_reach (t : List Int) {c : Int} (h : c = 48 ∨ c = 49 ∨ c = 50) : ∀ e, ∃ z, (z = 48 ∨ z = 49 ∨ z = 50) ∧ ∃ e', gAt nbL (c :: t) e' = z :: gAt nbL t e := fun e => by
  induction e using Nat.strongRecOn with
  | _ e ih =>
    cases e with
    | zero => exact ⟨c, h, 0, by rw [gAt_zero, gAt_zero]⟩
    | succ e =>
      obtain ⟨z, hz, hr⟩ := ih (e / 3) (by omega)
      obtain ⟨y, hy, hm⟩ := third (e % 3) (Nat.mod_lt _ (by omega)) (gAt nbL t (e / 3))
      refine ⟨y, hy, reach_trans (reach_trans hr (head_reach _ hz hy)) ⟨e % 3 + 1, ?_⟩⟩
      rw [g_one _ (Nat.mod_lt _ (by omega)), hm, gAt_succ]
theorem conn : ∀ (l l' : List Int), l.length = l'.length → LV l → LV l' → ∃ e, gAt nbL l e = l'
  | [], [], _, _, _ => ⟨0, gAt_zero _⟩
  | [], _ :: _, h, _, _ => by simp at h
  | _ :: _, [], h, _, _ => by simp at h
  | c :: t, c' :: t', h, h1, h2 => by
    obtain ⟨e, he⟩ := conn t t' (by simpa using h) (fun x hx => h1 x (List.mem_cons_of_mem _ hx)) (fun x hx => h2 x (List.mem_cons_of_mem _ hx))
    obtain ⟨z, hz, hr⟩ := lift_reach t (h1 c (List.mem_cons_self ..)) e
    rw [he] at hr
    exact reach_trans hr (head_reach _ hz (h2 c' (List.mem_cons_self ..)))
end Go.Proofs.Ytmacnofkpdikiaa
