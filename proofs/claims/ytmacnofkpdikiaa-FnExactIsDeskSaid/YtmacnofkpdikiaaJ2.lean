/- Slices of numbers and desks among a law's arguments. -/
import Derived.Test.YtmacnofkpdikiaaJ
import Derived.Test.YtmacnofkpdikiaaS4
import Derived.OpenShut
import Derived.Deep.Strs
namespace Go.Proofs.Ytmacnofkpdikiaa
open Go.ChangeShapes Go.WideShapes Go.ChangeAt Go.RowKit Go.Joins
set_option linter.unusedVariables false
set_option linter.unusedSimpArgs false
section
variable {H : Type} {enc : TypeId × Value → H} {w : World} {base : Nat} {held : Bool}
theorem ints_of_trod {n : Nat} {cs : List Value} {y : DataW H × List MemPlace} (h : DataW.trod enc Try.prog w base (fun _ => true) held n 39 cs = some y) :
    ∃ v xs, cs = [v] ∧ SlI w v xs ∧ xs.length ≤ 9223372036854775807 := by
  rcases open_ints Try.underlying39 Try.underlying2 (by kernel_rfl) h with ⟨rfl, _⟩ | ⟨a, len, cap, zs, rfl, _, hl, hm, hz, _, hc, _⟩
  · exact ⟨_, [], rfl, ⟨none, 0, rfl, fun i hi => by simp at hi⟩, by simp⟩
  · simp only [if_true] at hz
    have hlen : (zs.take len).length = len := by rw [List.length_take]; omega
    refine ⟨_, zs.take len, rfl, ⟨some a, cap, by rw [hlen], fun i hi => ?_⟩, by unfold maxLen at hm; omega⟩
    rw [hlen] at hi
    obtain ⟨b, off, rfl, hcell⟩ := ints_at hc (by omega)
    refine ⟨b, off, rfl, ?_⟩
    rw [hcell i (by omega), List.getElem?_take, if_pos hi, List.getD_eq_getElem?_getD]
theorem split100 {cs : List Value} {A : List Value} {u v : Value} (hl : cs.length = 100) (hA : (cs.drop 0).take 98 = A) (h1 : (cs.drop 98).take 1 = [u]) (h2 : (cs.drop 99).take 1 = [v]) : cs = A ++ [u, v] := by
  have e0 : cs.take 98 = A := by simpa using hA
  have e1 := List.take_append_drop 98 cs
  have e2 := List.take_append_drop 1 (cs.drop 98)
  rw [List.drop_drop] at e2
  have e3 : (cs.drop (98 + 1)).take 1 = cs.drop (98 + 1) := List.take_of_length_le (by simp [hl])
  have e4 : cs.drop (98 + 1) = [v] := by rw [← e3]; exact h2
  rw [← e1, ← e2, e0, h1, e4]; rfl
set_option maxRecDepth 100000 in
theorem open_desk {b0 : Nat} {r : Reach} {v : Value} {d : DataW H} {p : List MemPlace} (hv : Value.okWide Try.prog w r b0 41 v) (h : DataW.Trod enc Try.prog w base (fun _ => true) held 41 v d p) :
    ∃ (m : Mch) (a b : Value) (xs ys : List Int), m.Wf ∧ v = .agg (dcells m a b).toArray ∧ SlI w a xs ∧ SlI w b ys ∧ xs.length ≤ 9223372036854775807 ∧ ys.length ≤ 9223372036854775807 := by
  have c41 : Try.prog.cellsOf 41 = 100 := by kernel_rfl
  have c38 : Try.prog.cellsOf 38 = 98 := by kernel_rfl
  have c39 : Try.prog.cellsOf 39 = 1 := by kernel_rfl
  obtain ⟨cs, rfl, hsz⟩ := okWide_struct Try.underlying41 hv
  obtain ⟨fuel, hf⟩ := h
  obtain ⟨cs⟩ := cs
  simp only [Value.cells] at hf
  obtain ⟨y0, y1, y2, n, _, hl, h0, h1, h2⟩ := Go.Deep.trod_struct3 Try.underlying41 hf
  simp only at h0 h1 h2 hl
  rw [c41] at hl
  rw [c38] at h0
  rw [c39] at h1 h2
  obtain ⟨m, hw, e0⟩ := mach_of_trod h0
  obtain ⟨a, xs, e1, s1, l1⟩ := ints_of_trod h1
  obtain ⟨b, ys, e2, s2, l2⟩ := ints_of_trod h2
  exact ⟨m, a, b, xs, ys, hw, by rw [split100 hl e0 e1 e2]; rfl, s1, s2, l1, l2⟩
end
end Go.Proofs.Ytmacnofkpdikiaa
