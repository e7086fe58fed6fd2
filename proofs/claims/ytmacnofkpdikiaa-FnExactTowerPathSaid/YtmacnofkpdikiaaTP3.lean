/- The words of the towers as strings, the table of distances. -/
import Derived.Test.YtmacnofkpdikiaaTP2
namespace Go.Proofs.Ytmacnofkpdikiaa
set_option linter.unusedVariables false
set_option linter.unusedSimpArgs false
set_option linter.unusedSectionVars false

theorem nodup_lt : ∀ (N : Nat) (l : List Nat), l.Nodup → (∀ x ∈ l, x < N) → l.length ≤ N
  | 0, [], _, _ => Nat.le_refl _
  | 0, x :: _, _, h => absurd (h x (List.mem_cons_self ..)) (by omega)
  | N + 1, l, hd, h => by
    by_cases hm : N ∈ l
    · have h1 := nodup_lt N (l.erase N) (hd.erase N) (fun x hx => by
        have h2 := (hd.mem_erase_iff).1 hx
        have := h x h2.2
        have := h2.1
        omega)
      rw [List.length_erase_of_mem hm] at h1
      omega
    · have h1 := nodup_lt N l hd (fun x hx => by
        have := h x hx
        have : x ≠ N := fun e => hm (e ▸ hx)
        omega)
      omega

section
variable {α : Type} [DecidableEq α] {nb : Nat → α → α}
/-- the table of distances, the paths below c done -/
def gTab (nb : Nat → α → α) (num : α → Nat) (N : Nat) (v : α) (c : Nat) : List Int :=
  (List.range N).map fun m => match (gF nb v c).find? (fun e => num (gAt nb v e) == m) with | some e => (gLen e : Int) | none => -1
theorem gTab_len {num : α → Nat} {N : Nat} {v : α} {c : Nat} : (gTab nb num N v c).length = N := by simp [gTab]
theorem gTab_zero (num : α → Nat) (N : Nat) (v : α) : gTab nb num N v 0 = List.replicate N (-1) := by
  apply List.ext_getElem
  · simp [gTab]
  · intro i h1 h2
    simp [gTab, gF]
theorem gTab_get {num : α → Nat} {N : Nat} {v : α} {c m : Nat} (hm : m < N) : (gTab nb num N v c)[m]?.getD 0 = match (gF nb v c).find? (fun e => num (gAt nb v e) == m) with | some e => (gLen e : Int) | none => -1 := by
  simp [gTab, hm]
theorem gTab_same {num : α → Nat} {N : Nat} {v : α} {c : Nat} (h : isF nb v c = false) : gTab nb num N v (c + 1) = gTab nb num N v c := by
  simp only [gTab, gF_succ, h, Bool.false_eq_true, if_false, List.append_nil]
theorem gTab_new {ok : α → Prop} (hok : ∀ k u, k < 3 → ok u → ok (nb k u)) {num : α → Nat} (hinj : ∀ u u', ok u → ok u' → num u = num u' → u = u') {N : Nat} {v : α} (hv : ok v) {c : Nat} (h : isF nb v c = true) :
    gTab nb num N v (c + 1) = (gTab nb num N v c).set (num (gAt nb v c)) (gLen c : Int) := by
  apply List.ext_getElem
  · simp [gTab]
  · intro m h1 h2
    have hm : m < N := by simpa [gTab] using h1
    rw [List.getElem_set]
    simp only [gTab, List.getElem_map, List.getElem_range, gF_succ, h, if_true, List.find?_append]
    by_cases e : num (gAt nb v c) = m
    · rw [if_pos e]
      have hn : (gF nb v c).find? (fun e => num (gAt nb v e) == m) = none := by
        rw [List.find?_eq_none]
        intro x hx
        obtain ⟨hx1, hx2⟩ := gF_mem.1 hx
        simp only [beq_iff_eq]
        intro he
        exact isF_iff.1 h x hx1 (hinj _ _ (gAt_ok hok hv _) (gAt_ok hok hv _) (he.trans e.symm))
      rw [hn]
      simp [List.find?_cons, e]
    · rw [if_neg e]
      have : ([c].find? fun e => num (gAt nb v e) == m) = none := by simp [List.find?_cons, e]
      rw [this, Option.or_none]
theorem gTab_hit {ok : α → Prop} (hok : ∀ k u, k < 3 → ok u → ok (nb k u)) {num : α → Nat} (hinj : ∀ u u', ok u → ok u' → num u = num u' → u = u') {N : Nat} {v : α} (hv : ok v) {c e : Nat} (he : e ∈ gF nb v c) (hm : num (gAt nb v e) < N) :
    (gTab nb num N v c)[num (gAt nb v e)]?.getD 0 = (gLen e : Int) := by
  rw [gTab_get hm]
  cases hf : (gF nb v c).find? (fun x => num (gAt nb v x) == num (gAt nb v e)) with
  | none =>
    rw [List.find?_eq_none] at hf
    exact absurd (by simp) (hf e he)
  | some x =>
    have h1 := List.find?_some hf
    have h2 := List.mem_of_find?_eq_some hf
    simp only [beq_iff_eq] at h1
    have := isF_inj (gF_mem.1 h2).2 (gF_mem.1 he).2 (hinj _ _ (gAt_ok hok hv _) (gAt_ok hok hv _) h1)
    subst this
    rfl
theorem gTab_miss {ok : α → Prop} (hok : ∀ k u, k < 3 → ok u → ok (nb k u)) {num : α → Nat} (hinj : ∀ u u', ok u → ok u' → num u = num u' → u = u') {N : Nat} {v u : α} (hv : ok v) (hu : ok u) {c : Nat} (hn : ∀ e ∈ gF nb v c, gAt nb v e ≠ u) (hm : num u < N) :
    (gTab nb num N v c)[num u]?.getD 0 = -1 := by
  rw [gTab_get hm]
  have : (gF nb v c).find? (fun e => num (gAt nb v e) == num u) = none := by
    rw [List.find?_eq_none]
    intro x hx
    simp only [beq_iff_eq]
    intro h
    exact hn x hx (hinj _ _ (gAt_ok hok hv _) hu h)
  rw [this]
theorem gF_count {ok : α → Prop} (hok : ∀ k u, k < 3 → ok u → ok (nb k u)) {num : α → Nat} (hinj : ∀ u u', ok u → ok u' → num u = num u' → u = u') {N : Nat} (hN : ∀ u, ok u → num u < N) {v : α} (hv : ok v) (c : Nat) : (gF nb v c).length ≤ N := by
  have h1 : ((gF nb v c).map fun e => num (gAt nb v e)).Nodup := by
    rw [List.nodup_iff_pairwise_ne, List.pairwise_map]
    refine (gF_sorted (nb := nb) v c).imp_of_mem fun {a b} ha hb hab he => ?_
    have := isF_inj (gF_mem.1 ha).2 (gF_mem.1 hb).2 (hinj _ _ (gAt_ok hok hv _) (gAt_ok hok hv _) he)
    omega
  have h2 := nodup_lt N _ h1 (fun x hx => by
    obtain ⟨e, _, rfl⟩ := List.mem_map.1 hx
    exact hN _ (gAt_ok hok hv _))
  simpa using h2
end

/-! strings -/
def okW (n : Nat) (s : ByteArray) : Prop := LV (nums s) ∧ s.size = n
theorem nums_str {l : List Int} (h : LV l) : nums (strOfNums l) = l := by
  simp only [nums, strOfNums, List.map_map]
  conv => rhs; rw [← List.map_id l]
  apply List.map_congr_left
  intro c hc
  rcases h c hc with rfl | rfl | rfl <;> rfl
theorem strOfNums_len (l : List Int) : (strOfNums l).size = l.length := by simp [strOfNums_size]
theorem nbS_ok {n : Nat} : ∀ k s, k < 3 → okW n s → okW n (nbS k s) := fun k s _ h => by
  have h1 := nbL_LV (k := k) h.1
  have e : nbS k s = strOfNums (nbL k (nums s)) := rfl
  rw [e]
  refine ⟨by rw [nums_str h1]; exact h1, ?_⟩
  rw [strOfNums_len, nbL_len, nums_length, h.2]
theorem nbS_inv {n : Nat} : ∀ k s, k < 3 → okW n s → nbS k (nbS k s) = s := fun k s _ h => by
  have h1 := nbL_LV (k := k) h.1
  show strOfNums (nbL k (nums (strOfNums (nbL k (nums s))))) = s
  rw [nums_str h1, nbL_inv, str_nums]
theorem gAt_str {s : ByteArray} (h : LV (nums s)) : ∀ e, gAt nbS s e = strOfNums (gAt nbL (nums s) e) ∧ LV (gAt nbL (nums s) e) := fun e => by
  induction e using Nat.strongRecOn with
  | _ e ih =>
    cases e with
    | zero => rw [gAt_zero, gAt_zero, str_nums]; exact ⟨rfl, h⟩
    | succ e =>
      obtain ⟨h1, h2⟩ := ih (e / 3) (by omega)
      rw [gAt_succ, gAt_succ, h1]
      refine ⟨?_, nbL_LV h2⟩
      show strOfNums (nbL _ (nums (strOfNums _))) = _
      rw [nums_str h2]
theorem connS {n : Nat} {s v : ByteArray} (hs : okW n s) (hv : okW n v) : ∃ e, gAt nbS s e = v := by
  obtain ⟨e, he⟩ := conn (nums s) (nums v) (by rw [nums_length, nums_length, hs.2, hv.2]) hs.1 hv.1
  exact ⟨e, by rw [(gAt_str hs.1 e).1, he, str_nums]⟩
def numW (s : ByteArray) : Nat := numL 3 (lts s)
theorem lts_nums (s : ByteArray) : lts s = (nums s).map fun c => (c - 48).toNat := by
  simp only [lts, nums, List.map_map]
  apply List.map_congr_left
  intro b _
  simp only [Function.comp]
  omega
theorem lts_ok {s : ByteArray} (h : LV (nums s)) : ∀ x ∈ lts s, x < 3 := fun x hx => by
  rw [lts_nums] at hx
  obtain ⟨c, hc, rfl⟩ := List.mem_map.1 hx
  rcases h c hc with rfl | rfl | rfl <;> decide
theorem numL_inj {d : Nat} : ∀ (n : Nat) (l l' : List Nat), l.length = n → l'.length = n → (∀ x ∈ l, x < d) → (∀ x ∈ l', x < d) → numL d l = numL d l' → l = l' := by
  intro n
  induction n with
  | zero => intro l l' h h' _ _ _; rw [List.length_eq_zero_iff.1 h, List.length_eq_zero_iff.1 h']
  | succ n ih =>
    intro l l' h h' hl hl' he
    obtain ⟨r, x, rfl⟩ : ∃ r x, l = r ++ [x] := ⟨l.dropLast, l.getLast (by intro e; simp [e] at h), (List.dropLast_concat_getLast _).symm⟩
    obtain ⟨r', x', rfl⟩ : ∃ r x, l' = r ++ [x] := ⟨l'.dropLast, l'.getLast (by intro e; simp [e] at h'), (List.dropLast_concat_getLast _).symm⟩
    rw [numL_snoc, numL_snoc] at he
    have hx := hl x (by simp)
    have hx' := hl' x' (by simp)
    have hd : 0 < d := by omega
    have e1 : numL d r = numL d r' := by
      have := congrArg (· / d) he
      rwa [Nat.mul_comm _ d, Nat.mul_comm _ d, Nat.mul_add_div hd, Nat.mul_add_div hd, Nat.div_eq_of_lt hx, Nat.div_eq_of_lt hx'] at this
    have e2 : x = x' := by rw [e1] at he; omega
    rw [ih r r' (by simpa using h) (by simpa using h') (fun y hy => hl y (by simp [hy])) (fun y hy => hl' y (by simp [hy])) e1, e2]
theorem numW_inj {n : Nat} : ∀ u u', okW n u → okW n u' → numW u = numW u' → u = u' := fun u u' h h' he => by
  have e := numL_inj n (lts u) (lts u') (by rw [lts_length, h.2]) (by rw [lts_length, h'.2]) (lts_ok h.1) (lts_ok h'.1) he
  rw [lts_nums, lts_nums] at e
  have e2 : nums u = nums u' := by
    apply List.ext_getElem
    · rw [nums_length, nums_length, h.2, h'.2]
    · intro i h1 h2
      have e3 := congrArg (fun l : List Nat => l[i]?) e
      simp only [List.getElem?_map, List.getElem?_eq_getElem h1, List.getElem?_eq_getElem h2, Option.map_some, Option.some.injEq] at e3
      have c1 := h.1 _ (List.getElem_mem h1)
      have c2 := h'.1 _ (List.getElem_mem h2)
      omega
  rw [← str_nums u, e2, str_nums]
theorem numW_lt {n : Nat} : ∀ u, okW n u → numW u < 3 ^ n := fun u h => by
  have := numL_lt (d := 3) (lts u) (lts_ok h.1)
  rwa [lts_length, h.2] at this
theorem okW_of {s : ByteArray} (h : letsP 3 s = true) : okW s.size s := by
  refine ⟨fun c hc => ?_, rfl⟩
  obtain ⟨b, hb, rfl⟩ := List.mem_map.1 hc
  obtain ⟨k, hk⟩ := List.mem_iff_getElem?.1 hb
  have hlt : k < s.size := by have := (List.getElem?_eq_some_iff.1 hk).1; simpa using this
  have h1 := lets_at h hlt
  have h2 : s[k] = b := by
    have h' : k < s.data.toList.length := by simpa using hlt
    rw [List.getElem?_eq_getElem h'] at hk
    exact Option.some.inj hk
  rw [h2] at h1
  omega
theorem okW_lets {n : Nat} {s : ByteArray} (h : okW n s) : letsP 3 s = true := by
  simp only [letsP, letsUpto, List.all_eq_true, List.mem_range]
  intro k hk
  rw [getElem!_pos s k hk]
  have hm : ((s[k]).toNat : Int) ∈ nums s := by
    refine List.mem_map.2 ⟨s[k], ?_, rfl⟩
    show s.data[k] ∈ s.data.toList
    simp
  have := h.1 _ hm
  simp only [letB, Bool.and_eq_true, decide_eq_true_eq]
  omega
/-- a path as text -/
def gTxt (e : Nat) : ByteArray := strOfNums ((gStr e).map fun k : Nat => 98 + (k : Int))
theorem gTxt_size (e : Nat) : (gTxt e).size = gLen e := by rw [gTxt, strOfNums_len, List.length_map, gStr_length]
theorem strOfNums_append (a b : List Int) : strOfNums (a ++ b) = strOfNums a ++ strOfNums b := by
  have : (strOfNums (a ++ b)).data.toList = (strOfNums a ++ strOfNums b).data.toList := by
    rw [ByteArray.data_append]
    simp only [Array.toList_append, strOfNums_data, List.map_append]
  exact ByteArray.ext (Array.toList_inj.1 this)
theorem gTxt_code (e : Nat) {k : Nat} (hk : k < 3) : gTxt (3 * e + k + 1) = gTxt e ++ strOfNums [98 + (k : Int)] := by
  rw [gTxt, gStr_code e hk, List.map_append, strOfNums_append]; rfl
end Go.Proofs.Ytmacnofkpdikiaa
