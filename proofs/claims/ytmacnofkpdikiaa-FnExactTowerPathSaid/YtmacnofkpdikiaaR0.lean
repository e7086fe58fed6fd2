/- A region in drawn order whose loads are read ahead of stores to the same cells: S is held until one of the operations L (the stores) has come up. -/
import Derived.Test.YtmacnofkpdikiaaK
import Derived.OrdersHeld
import Derived.Deep.RegionHeld3
import Derived.Deep.AppendLies
namespace Go.Proofs.Ytmacnofkpdikiaa
open Go.RowKit
set_option linter.unusedVariables false
set_option linter.unusedSimpArgs false
section
variable {P : Program} {ops : Array Oper} {Q : Exit → Act → World → Prop} {md : Region.Mode} {S : World → Prop} {L : List Nat}

def Upto (S : World → Prop) (L : List Nat) (listed : Array Bool) (w : World) : Prop := S w ∨ ∃ l ∈ L, listed.getD l true = true

def AnyS (P : Program) (md : Region.Mode) (ops : Array Oper) (Q : Exit → Act → World → Prop) (S : World → Prop) (L : List Nat) : Nat → Array Bool → Act → World → Prop
  | 0, listed, a, w => Region.ready md ops listed = [] ∧ Q .normal a w
  | n + 1, listed, a, w => (Region.ready md ops listed = [] → Q .normal a w) ∧
    ∀ i ∈ Region.ready md ops listed, wpOp P ops Q i (fun a' w' => Upto S L (listed.setIfInBounds i true) w' ∧ AnyS P md ops Q S L n (listed.setIfInBounds i true) a' w') a w

theorem AnyS.any : ∀ (n : Nat) (listed : Array Bool) (a : Act) (w : World), AnyS P md ops Q S L n listed a w → wpAny P md ops Q n listed a w
  | 0, _, _, _, h => h
  | n + 1, _, _, _, h => ⟨h.1, fun i hi => wpOp_mono (fun a' w' h' => AnyS.any n _ a' w' h'.2) (h.2 i hi)⟩

theorem Upto.less {listed : Array Bool} {w : World} {i : Nat} (hL : i ∉ L) (h : Upto S L (listed.setIfInBounds i true) w) : Upto S L listed w :=
  h.imp id fun ⟨l, hl, h⟩ => ⟨l, hl, by
    have hne : i ≠ l := fun e => hL (by rw [e]; exact hl)
    rwa [getD_set_ne true hne] at h⟩
theorem Upto.more {listed : Array Bool} {w : World} {i : Nat} (hL : i ∉ L) (h : Upto S L listed w) : Upto S L (listed.setIfInBounds i true) w :=
  h.imp id fun ⟨l, hl, h⟩ => ⟨l, hl, by
    have hne : i ≠ l := fun e => hL (by rw [e]; exact hl)
    rwa [getD_set_ne true hne]⟩

/-- Each of L waits for i. -/
def WaitFor (md : Region.Mode) (ops : Array Oper) (L : List Nat) (i : Nat) : Bool := L.all fun l => match ops[l]? with | some o => o.after.any fun e => Region.binds md e && e.on == i | none => true

theorem AnyS.first {S' : World → Prop} {i : Nat} {oi : Oper} {v : Value} (hi : ops[i]? = some oi) (hsel : ∀ (j : Nat) (o : Oper) cs b, ops[j]? = some o → o.op ≠ .select cs b)
    (hQ : ∀ c a w, Q (.panic c) (a.put oi.dst v) w → Q (.panic c) a w) (hL : i ∉ L) (hS' : (∀ w, S' w) ∨ (S' = S ∧ WaitFor md ops L i = true)) :
    ∀ (n : Nat) (listed : Array Bool) (a : Act) (w : World),
      (∀ j oj, ops[j]? = some oj → j ≠ i → listed.getD j true = false → (∀ e ∈ oj.after, Region.binds md e = true → e.on ≠ i) → oi.apart ops oj = true) →
      ((∀ w, S' w) ∨ ∀ l ∈ L, listed.getD l true = false) →
      i ∈ Region.ready md ops listed → YieldsIf P ops S' oi v a → Upto S L listed w →
      AnyS P md ops Q S L n (listed.setIfInBounds i true) (a.put oi.dst v) w → AnyS P md ops Q S L (n + 1) listed a w := by
  have now : ∀ (listed : Array Bool) w, ((∀ w, S' w) ∨ ∀ l ∈ L, listed.getD l true = false) → Upto S L listed w → S' w := fun listed w hd h => by
    rcases hd with hd | hd
    · exact hd w
    · rcases hS' with hS' | ⟨rfl, _⟩
      · exact hS' w
      · rcases h with h | ⟨l, hl, h⟩
        · exact h
        · rw [hd l hl] at h; cases h
  intro n
  induction n with
  | zero =>
    intro listed a w _ hd hr hy hS H
    refine ⟨fun h => (by rw [h] at hr; cases hr), fun j hj => ?_⟩
    by_cases hji : j = i
    · subst hji; exact hy.wpOp hi (now _ _ hd hS) ⟨hS.more hL, H⟩
    · have := ready_mono hj hji
      rw [H.1] at this
      cases this
  | succ n ih =>
    intro listed a w hfree hd hr hy hS H
    refine ⟨fun h => (by rw [h] at hr; cases hr), fun j hj => ?_⟩
    by_cases hji : j = i
    · subst hji; exact hy.wpOp hi (now _ _ hd hS) ⟨hS.more hL, H⟩
    · have h1 := H.2 j (ready_mono hj hji)
      obtain ⟨hjun, oj, hoj, hall⟩ := mem_ready.1 hj
      have h0 := (mem_ready.1 hr).1
      have hnot : ∀ e ∈ oj.after, Region.binds md e = true → e.on ≠ i := fun e he hb heq => by
        have h1 := hall e he hb
        rw [heq] at h1
        rcases Nat.lt_or_ge i listed.size with h' | h'
        · simp [h'] at h0 h1; rw [h0] at h1; cases h1
        · simp [Array.getElem?_eq_none h'] at h1
      have h2 := wpOp_putIf hoj (hfree j oj hoj hji hjun hnot) (fun cs b => hsel i oi cs b hi) (fun cs b => hsel j oj cs b hoj) hQ hy h1
      have hfree' : ∀ k ok, ops[k]? = some ok → k ≠ i → (listed.setIfInBounds j true).getD k true = false →
          (∀ e ∈ ok.after, Region.binds md e = true → e.on ≠ i) → oi.apart ops ok = true := fun k ok hk hki hun hno => by
        refine hfree k ok hk hki ?_ hno
        by_cases hjk : j = k
        · subst hjk; exact hjun
        · rw [getD_set_ne true hjk] at hun; exact hun
      have hd' : (∀ w, S' w) ∨ ∀ l ∈ L, (listed.setIfInBounds j true).getD l true = false := by
        rcases hd with hd | hd
        · exact .inl hd
        rcases hS' with hS' | ⟨_, hw⟩
        · exact .inl hS'
        refine .inr fun l hl => ?_
        by_cases e : j = l
        · exfalso
          subst e
          have := (List.all_eq_true.1 hw) j hl
          rw [hoj] at this
          obtain ⟨e, he, hb⟩ := Array.any_eq_true'.1 this
          simp only [Bool.and_eq_true, beq_iff_eq] at hb
          exact hnot e he hb.1 hb.2
        · rw [getD_set_ne true e]; exact hd l hl
      refine wpOp_mono (fun a' w' h3 => ?_) h2
      have hS2 : Upto S L (listed.setIfInBounds j true) w' := by
        have := h3.2.1
        rw [Array.setIfInBounds_comm _ _ (Ne.symm hji)] at this
        exact this.less hL
      refine ⟨hS2, ih (listed.setIfInBounds j true) a' w' hfree' hd' (ready_mono hr (Ne.symm hji)) h3.1 hS2 ?_⟩
      rw [Array.setIfInBounds_comm _ _ hji]
      exact h3.2.2

/-- what yields in every world is taken first -/
theorem AnyS.take {i : Nat} {oi : Oper} {v : Value} {n : Nat} {listed : Array Bool} {a : Act} {w : World} (hi : ops.toList[i]? = some oi)
    (hs : Region.noSelect ops = true) (hf : Region.free md ops listed i = true) (hr : (Region.ready md ops listed).contains i = true) (hL : L.contains i = false)
    (hQ : ∀ c a w, Q (.panic c) (a.put oi.dst v) w → Q (.panic c) a w) (hw : Region.wanted oi (yielded ops a.tmps) = true) (hy : ∀ w, (execOp a.eval oi).run P w = .ok (.value v) w) (hS : Upto S L listed w)
    (h : Upto S L (listed.setIfInBounds i true) w → AnyS P md ops Q S L n (listed.setIfInBounds i true) (a.put oi.dst v) w) : AnyS P md ops Q S L (n + 1) listed a w :=
  AnyS.first (S' := fun _ => True) (by rwa [Array.getElem?_toList] at hi) (Region.noSelect_spec hs) hQ (by simpa using hL) (.inl fun _ => trivial) n listed a w (Region.free_spec (by rwa [Array.getElem?_toList] at hi) hf) (.inl fun _ => trivial) (by simpa using hr) (.inl ⟨hw, fun w _ => hy w⟩) hS (h (hS.more (by simpa using hL)))
/-- what yields in every world that meets S is taken first, ahead of the stores -/
theorem AnyS.takeS {i : Nat} {oi : Oper} {v : Value} {n : Nat} {listed : Array Bool} {a : Act} {w : World} (hi : ops.toList[i]? = some oi)
    (hs : Region.noSelect ops = true) (hf : Region.free md ops listed i = true) (hr : (Region.ready md ops listed).contains i = true) (hL : L.contains i = false)
    (hW : WaitFor md ops L i = true) (hd : (L.all fun l => !listed.getD l true) = true)
    (hQ : ∀ c a w, Q (.panic c) (a.put oi.dst v) w → Q (.panic c) a w) (hw : Region.wanted oi (yielded ops a.tmps) = true) (hy : ∀ w, S w → (execOp a.eval oi).run P w = .ok (.value v) w) (hS : Upto S L listed w)
    (h : Upto S L (listed.setIfInBounds i true) w → AnyS P md ops Q S L n (listed.setIfInBounds i true) (a.put oi.dst v) w) : AnyS P md ops Q S L (n + 1) listed a w :=
  AnyS.first (S' := S) (by rwa [Array.getElem?_toList] at hi) (Region.noSelect_spec hs) hQ (by simpa using hL) (.inr ⟨rfl, hW⟩) n listed a w (Region.free_spec (by rwa [Array.getElem?_toList] at hi) hf) (.inr fun l hl => by simpa using (List.all_eq_true.1 hd) l hl) (by simpa using hr) (.inl ⟨hw, hy⟩) hS (h (hS.more (by simpa using hL)))

def AllS (P : Program) (md : Region.Mode) (ops : Array Oper) (Q : Exit → Act → World → Prop) (S : World → Prop) (L : List Nat) (n : Nat) (listed : Array Bool) (a : Act) (w : World) (rs : List Nat) : Prop :=
  ∀ i ∈ rs, wpOp P ops Q i (fun a' w' => Upto S L (listed.setIfInBounds i true) w' ∧ AnyS P md ops Q S L n (listed.setIfInBounds i true) a' w') a w
theorem AllS.nil {n : Nat} {listed : Array Bool} {a : Act} {w : World} : AllS P md ops Q S L n listed a w [] := fun _ h => by cases h
theorem AllS.cons {n : Nat} {listed : Array Bool} {a : Act} {w : World} {i : Nat} {o : Oper} {rs : List Nat} (ho : ops.toList[i]? = some o)
    (h : ∀ K' : Act → World → Prop, Shut (∀ a w, Upto S L (listed.setIfInBounds i true) w → (Upto S L (listed.setIfInBounds i true) w → AnyS P md ops Q S L n (listed.setIfInBounds i true) a w) → K' a w) → if Region.wanted o (yielded ops a.tmps) = true then Oper.wp P o a w K' Q else K' (a.put o.dst undef) w)
    (hs : AllS P md ops Q S L n listed a w rs) : AllS P md ops Q S L n listed a w (i :: rs) := fun j hj => by
  rcases List.mem_cons.1 hj with rfl | hj
  · exact wpOp_step (by rwa [Array.getElem?_toList] at ho) (fun K' hK => h K' (fun a w hS hW => hK a w ⟨hS, hW hS⟩))
  · exact hs j hj
theorem AnyS.branch {rs : List Nat} {n : Nat} {listed : Array Bool} {a : Act} {w : World} (hr : Region.ready md ops listed = rs) (hne : rs ≠ [])
    (h : AllS P md ops Q S L n listed a w rs) : AnyS P md ops Q S L (n + 1) listed a w := ⟨fun h0 => absurd (hr ▸ h0) hne, hr ▸ h⟩
theorem AnyS.done {listed : Array Bool} {a : Act} {w : World} (hr : Region.ready md ops listed = []) (h : Q .normal a w) : ∀ n, AnyS P md ops Q S L n listed a w
  | 0 => ⟨hr, h⟩
  | _ + 1 => ⟨fun _ => h, by rw [hr]; simp⟩
/-- back into the region, the world a letter of which Φ is known -/
theorem Shut.abs {n : Nat} {listed : Array Bool} {K : Act → World → Prop} (hK : Shut (∀ a w, Upto S L listed w → (Upto S L listed w → AnyS P md ops Q S L n listed a w) → K a w)) (Φ : World → Prop) {a : Act} {w : World} (hΦ : Φ w)
    (hS : ∀ w, Φ w → S w) (h : ∀ w, Φ w → Upto S L listed w → AnyS P md ops Q S L n listed a w) : K a w := hK.out a w (.inl (hS w hΦ)) fun hU => h w hΦ hU
/-- the beginning -/
theorem region_S {id : Nat} {a : Act} {w : World} (S : World → Prop) (L : List Nat) (n : Nat) (hn : ops.size = n) (hm : P.follows .mixedOrders = true) (hS : S w.drew)
    (h : Upto S L (Array.replicate n false) w.drew → AnyS P .any ops Q S L n (Array.replicate n false) a w.drew) : (Code.region id ops true).wp P Q a w := by
  subst hn
  exact wp_region_any hm (AnyS.any _ _ _ _ (h (.inl hS)))
end
end Go.Proofs.Ytmacnofkpdikiaa
