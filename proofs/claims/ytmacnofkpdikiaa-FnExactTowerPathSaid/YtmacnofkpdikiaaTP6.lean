/- A map of strings to strings. -/
import Derived.Test.YtmacnofkpdikiaaTP5
import Derived.Maps.Own
import Derived.Maps.Views
import Derived.StringKeys
namespace Go.Proofs.Ytmacnofkpdikiaa
open Go.RowKit
set_option linter.unusedVariables false
set_option linter.unusedSimpArgs false
set_option linter.unusedSectionVars false

/-- block b is a map of at most n entries that reads as f -/
def MapS (w : World) (b n : Nat) (f : ByteArray → Option ByteArray) : Prop :=
  ∃ D : DataW Unit, Maps.IsMap D ∧ w.ownsMap Try.prog 9 (plainElem Try.prog 9) b n D ∧
    ∀ s, match f s with | none => ∀ z, D.atKey (.string s.data.toList) z = z | some t => t.size ≤ maxLen ∧ ∀ z, D.atKey (.string s.data.toList) z = .lit (.string t.data.toList)
theorem litS_ne {s t : ByteArray} (h : s ≠ t) : Lit.string s.data.toList ≠ Lit.string t.data.toList := fun e => h (by
  injection e with e
  exact ByteArray.ext (Array.toList_inj.1 e))
theorem zeroS (w : World) : (zeroValue 9).run Try.prog w = .ok (.string ⟨#[]⟩) w := by kernel_rfl
theorem plainS_inv {v : Value} {t : ByteArray} {ps : List MemPlace} (h : plainElem (H := Unit) Try.prog 9 v = some (.lit (.string t.data.toList), ps)) : v = .string t := by
  have hu := Try.underlying9
  generalize Try.prog = P at *
  unfold plainElem at h
  split at h
  · rename_i h1; rw [hu] at h1; cases h1
  · rename_i h1; rw [hu] at h1; cases h1
  · split at h
    · simp only [Option.some.injEq, Prod.mk.injEq, DataW.lit.injEq, Lit.string.injEq] at h
      rw [ByteArray.ext (Array.toList_inj.1 h.1)]
    · cases h
  · cases h
theorem MapS.new (w : World) : MapS (w.alloc (.map #[] 0)) w.heap.size 0 (fun _ => none) :=
  ⟨.map [], Maps.isMap_empty, World.ownsMap_made w _ _ _, fun s z => rfl⟩
theorem MapS.lt {w : World} {b n : Nat} {f : ByteArray → Option ByteArray} (h : MapS w b n f) : b < w.heap.size := by
  obtain ⟨D, _, h2, _⟩ := h
  exact h2.lt
theorem MapS.kept {w w' : World} {b n : Nat} {f : ByteArray → Option ByteArray} (h : MapS w b n f) (e : w'.heap[b]? = w.heap[b]?) : MapS w' b n f := by
  obtain ⟨D, h1, ⟨es, clock, hb, F, hs, hD⟩, h3⟩ := h
  exact ⟨D, h1, ⟨es, clock, e.trans hb, F, hs, hD⟩, h3⟩
theorem MapS.below {w w' : World} {b n C : Nat} {f : ByteArray → Option ByteArray} (h : MapS w b n f) (hb : Below C w w') (hC : b < C) : MapS w' b n f := h.kept (hb.block b hC)
theorem MapS.look {w : World} {b n : Nat} {f : ByteArray → Option ByteArray} (h : MapS w b n f) (s : ByteArray) (hs : s.size ≤ maxLen) (c : Bool) :
    (Instr.lookup 118 (.map (some b)) (.string s) c).run Try.prog w = .ok (if c then .tuple #[.string ((f s).getD ⟨#[]⟩), .bool (f s).isSome] else .string ((f s).getD ⟨#[]⟩)) w := by
  obtain ⟨D, h1, ⟨es, clock, hb, F, hsz, hD⟩, h3⟩ := h
  have h4 := h3 s
  rw [hD] at h4
  rcases Maps.fit_look c (Maps.string_keyed Try.underlying9) Try.underlying118 (zeroS w) hb F (WideMaps.keyOf_string_mk Try.underlying9 hs) with ⟨hrun, _, hat⟩ | ⟨e0, y, _, _, hrun, hRv, hat, _⟩
  · cases hf : f s with
    | none => rw [hrun]; rfl
    | some t =>
      rw [hf] at h4
      have e1 := h4.2 (.lit (.bool true))
      rw [hat] at e1
      cases e1
  · cases hf : f s with
    | none =>
      rw [hf] at h4
      have e1 := (h4 (.lit (.bool true))).symm.trans (hat _)
      have e2 := (h4 (.lit (.bool false))).symm.trans (hat _)
      have := e1.trans e2.symm
      cases this
    | some t =>
      rw [hf] at h4
      have e1 := (hat (.lit (.bool true))).symm.trans (h4.2 _)
      obtain ⟨y1, y2⟩ := y
      simp only at e1
      subst e1
      rw [hrun, plainS_inv hRv]
      cases c <;> rfl
theorem MapS.put {w : World} {b n : Nat} {f : ByteArray → Option ByteArray} (h : MapS w b n f) (hn : n ≤ 100000) (s t : ByteArray) (hs : s.size ≤ maxLen) (ht : t.size ≤ maxLen) :
    ∃ w', (Instr.mapUpdate 118 (.map (some b)) (.string s) (.string t)).run Try.prog w = .ok () w' ∧ MapS w' b (n + 1) (fun x => if x = s then some t else f x) ∧ w.grownBy w' (some b) := by
  obtain ⟨D, h1, h2, h3⟩ := h
  obtain ⟨w', hrun, ho, hg⟩ := h2.update (Maps.string_keyed Try.underlying9) Try.underlying118 (by simp [maxLen]; omega) (WideMaps.keyOf_string_mk Try.underlying9 hs) (plainElem_string Try.underlying9 ht)
  refine ⟨w', hrun, ⟨_, ?_, ho, fun x => ?_⟩, hg⟩
  · obtain ⟨es, rfl⟩ := h1
    exact ⟨_, rfl⟩
  · by_cases e : x = s
    · subst e
      simp only [if_true]
      exact ⟨ht, fun z => Maps.atKey_put_same h1 ((Maps.string_keyed Try.underlying9).key (WideMaps.keyOf_string_mk Try.underlying9 hs)) _ _⟩
    · simp only [if_neg e]
      have h4 := h3 x
      cases hf : f x with
      | none =>
        rw [hf] at h4
        exact fun z => (Maps.atKey_put_other (litS_ne e) _ _).trans (h4 z)
      | some u =>
        rw [hf] at h4
        exact ⟨h4.1, fun z => (Maps.atKey_put_other (litS_ne e) _ _).trans (h4.2 z)⟩
end Go.Proofs.Ytmacnofkpdikiaa
