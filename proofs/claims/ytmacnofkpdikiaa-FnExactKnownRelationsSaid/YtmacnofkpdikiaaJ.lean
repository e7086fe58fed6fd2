/- A machine among a law's arguments. -/
import Derived.Test.YtmacnofkpdikiaaB
import Derived.Test.YtmacnofkpdikiaaL
import Derived.Lib.SmallJoins
namespace Go.Proofs.Ytmacnofkpdikiaa
open Go.ChangeShapes Go.WideShapes Go.ChangeAt Go.RowKit Go.Joins
set_option linter.unusedVariables false
set_option linter.unusedSimpArgs false

theorem all_ints : ∀ (cs : List Value), (∀ i, i < cs.length → ∃ n : Int, cs[i]? = some (.int .u8 n) ∧ 0 ≤ n ∧ n ≤ 255) → ∃ N : List Int, cs = N.map (Value.int .u8) ∧ N.length = cs.length ∧ ∀ i : Nat, 0 ≤ N[i]?.getD 0 ∧ N[i]?.getD 0 ≤ 255
  | [], _ => ⟨[], rfl, rfl, fun i => by simp⟩
  | c :: cs, h => by
    obtain ⟨N, hN, hl, hb⟩ := all_ints cs (fun i hi => by have := h (i + 1) (by simp; omega); simpa using this)
    obtain ⟨n, hc, h0, h1⟩ := h 0 (by simp)
    simp at hc
    subst hc
    refine ⟨n :: N, by rw [hN]; rfl, by simp [hl], fun i => ?_⟩
    cases i with
    | zero => simp; omega
    | succ i => simpa using hb i

theorem split98 (cs : List Value) (h : cs.length = 98) : cs = cs.take 1 ++ ((cs.drop 1).take 1 ++ ((cs.drop 2).take 48 ++ (cs.drop 50).take 48)) := by
  have e1 : (cs.drop 50).take 48 = cs.drop 50 := List.take_of_length_le (by simp [h])
  have e2 : (cs.drop 2).take 48 ++ cs.drop 50 = cs.drop 2 := by
    have := List.take_append_drop 48 (cs.drop 2)
    rwa [List.drop_drop] at this
  have e3 : (cs.drop 1).take 1 ++ cs.drop 2 = cs.drop 1 := by
    have := List.take_append_drop 1 (cs.drop 1)
    rwa [List.drop_drop] at this
  rw [e1, e2, e3, List.take_append_drop]
section
variable {H : Type} {enc : TypeId × Value → H} {w : World} {base : Nat} {spare : Nat → Bool} {held : Bool}
theorem trod_u8 {n : Nat} {c : List Value} {y : DataW H × List MemPlace} (h : DataW.trod enc Try.prog w base spare held n 5 c = some y) : ∃ k : Int, c = [.int .u8 k] ∧ 0 ≤ k ∧ k ≤ 255 := by
  obtain ⟨k, rfl, _, hw⟩ := DataW.trod_int Try.underlying5 h
  refine ⟨k, rfl, ?_⟩
  simp [Lit.wf, IntKind.min, IntKind.max, IntKind.signed, IntKind.bits] at hw
  omega
theorem trod_some {P : Program} {t : TypeId} {xs : List (DataW H × List MemPlace)} {n i : Nat} {cs : List Value} (h : DataW.trod enc P w base spare held n t cs = xs[i]?) (hi : i < xs.length) : ∃ y, DataW.trod enc P w base spare held n t cs = some y :=
  ⟨xs[i], by rw [h, List.getElem?_eq_getElem hi]⟩
set_option maxRecDepth 100000 in
theorem trod_rows {n : Nat} {cs : List Value} {y : DataW H × List MemPlace} (h : DataW.trod enc Try.prog w base spare held n 36 cs = some y) :
    cs.length = 48 ∧ ∀ i, i < cs.length → ∃ n : Int, cs[i]? = some (.int .u8 n) ∧ 0 ≤ n ∧ n ≤ 255 := by
  have c36 : Try.prog.cellsOf 36 = 48 := by kernel_rfl
  have c35 : Try.prog.cellsOf 35 = 3 := by kernel_rfl
  have c3 : Try.prog.cellsOf 5 = 1 := by kernel_rfl
  obtain ⟨xs, m, rfl, _, hl, hx, hf⟩ := DataW.trod_array Try.underlying36 h
  rw [c36] at hl
  refine ⟨hl, fun i hi => ?_⟩
  obtain ⟨y1, h1⟩ := trod_some (hf (i / 3) (by omega)) (by omega)
  rw [c35] at h1
  obtain ⟨xs', m', rfl, _, hl', hx', hf'⟩ := DataW.trod_array Try.underlying35 h1
  obtain ⟨y2, h2⟩ := trod_some (hf' (i % 3) (by omega)) (by omega)
  rw [c3] at h2
  obtain ⟨k, hk, h0, h255⟩ := trod_u8 h2
  refine ⟨k, ?_, h0, h255⟩
  have := congrArg (fun l : List Value => l[0]?) hk
  simp only [List.getElem?_take, List.getElem?_drop, List.getElem?_cons_zero] at this
  rw [if_pos (by omega), if_pos (by omega)] at this
  have e : i / 3 * 3 + (i % 3 * 1 + 0) = i := by omega
  rw [← this, e]
set_option maxRecDepth 100000 in
theorem mach_of_trod {fuel : Nat} {cs : List Value} {y : DataW H × List MemPlace} (hf : DataW.trod enc Try.prog w base spare held fuel 38 cs = some y) :
    ∃ m : Mch, m.Wf ∧ cs = m.cells := by
  have c38 : Try.prog.cellsOf 38 = 98 := by kernel_rfl
  have c36 : Try.prog.cellsOf 36 = 48 := by kernel_rfl
  have c2 : Try.prog.cellsOf 2 = 1 := by kernel_rfl
  obtain ⟨y0, y1, y2, y3, n, _, hl, h0, h1, h2, h3⟩ := trod_struct4 Try.underlying38 hf
  simp only at h0 h1 h2 h3 hl
  rw [c38] at hl
  rw [c2] at h0 h1
  rw [c36] at h2 h3
  obtain ⟨L, e0, _, wL⟩ := DataW.trod_int Try.underlying2 h0
  obtain ⟨S, e1, _, wS⟩ := DataW.trod_int Try.underlying2 h1
  obtain ⟨lN, hN⟩ := trod_rows h2
  obtain ⟨lO, hO⟩ := trod_rows h3
  obtain ⟨N, eN, nN, bN⟩ := all_ints _ hN
  obtain ⟨O, eO, nO, bO⟩ := all_ints _ hO
  rw [lN] at nN
  rw [lO] at nO
  simp [Lit.wf, IntKind.min, IntKind.max, IntKind.signed, IntKind.bits] at wL wS
  refine ⟨⟨L, S, N, O⟩, ⟨nN, nO, bN, bO, wL, wS⟩, ?_⟩
  rw [split98 cs hl]
  simp only [Mch.cells]
  rw [List.map_append, ← eN, ← eO]
  have e0' : cs.take 1 = [.int .i64 L] := e0
  have e1' : (cs.drop 1).take 1 = [.int .i64 S] := e1
  rw [e0', e1']
  rfl
set_option maxRecDepth 100000 in
theorem open_mach {b0 : Nat} {r : Reach} {v : Value} {d : DataW H} {p : List MemPlace} (hv : Value.okWide Try.prog w r b0 38 v) (h : DataW.Trod enc Try.prog w base spare held 38 v d p) :
    ∃ m : Mch, m.Wf ∧ v = .agg m.cells.toArray := by
  obtain ⟨cs, rfl, hsz⟩ := okWide_struct Try.underlying38 hv
  obtain ⟨fuel, hf⟩ := h
  obtain ⟨cs⟩ := cs
  simp only [Value.cells] at hf
  obtain ⟨m, hw, rfl⟩ := mach_of_trod hf
  exact ⟨m, hw, rfl⟩
end
end Go.Proofs.Ytmacnofkpdikiaa
