import Derived.Test.YteagecoiijhflaaYBall01
import Derived.OrdersHeld
import Derived.Deep.RegionHeld3
import Derived.Deep.AppendLies
/- Group words: normal words, images, sections, the search through the sections; no program in sight. -/
namespace Go.Proofs.Yteagecoiijhflaa
open Go.RowKit
set_option linter.unusedVariables false
set_option linter.unusedSimpArgs false

abbrev Wd := List Int
/-- the state of a number -/
def stN (k : Int) : Nat := k.natAbs - 1
/-- a list of numbers of the states of a machine -/
def GW (m : Mch) (g : Wd) : Prop := ∀ k ∈ g, k ≠ 0 ∧ -(m.s : Int) ≤ k ∧ k ≤ m.s
theorem stN_lt {m : Mch} {k : Int} (h : k ≠ 0 ∧ -(m.s : Int) ≤ k ∧ k ≤ m.s) : stN k < m.s := by
  simp only [stN]; omega
theorem GW.nil (m : Mch) : GW m [] := fun k h => by cases h
theorem GW.append {m : Mch} {g h : Wd} (hg : GW m g) (hh : GW m h) : GW m (g ++ h) := fun k hk => (List.mem_append.1 hk).elim (hg k) (hh k)
theorem GW.snoc {m : Mch} {g : Wd} (hg : GW m g) {k : Int} (hk : k ≠ 0 ∧ -(m.s : Int) ≤ k ∧ k ≤ m.s) : GW m (g ++ [k]) := hg.append fun x hx => by rw [List.mem_singleton.1 hx]; exact hk
theorem GW.sub {m : Mch} {g h : Wd} (hg : GW m g) (hs : ∀ k ∈ h, k ∈ g) : GW m h := fun k hk => hg k (hs k hk)
theorem GW.at {m : Mch} {g : Wd} (hg : GW m g) {i : Nat} (hi : i < g.length) : g[i]?.getD 0 ≠ 0 ∧ -(m.s : Int) ≤ g[i]?.getD 0 ∧ g[i]?.getD 0 ≤ m.s := by
  rw [List.getElem?_eq_getElem hi]; exact hg _ (List.getElem_mem hi)

/-! the inverse machine -/
/-- the letter that a state leads to y -/
def invX (m : Mch) (q y : Nat) : Nat := ((List.range m.l).find? fun x => m.on q x == y).getD 0
def invM (m : Mch) : Mch := ⟨m.L, m.S, (List.range 48).map fun i => if i / 3 < m.s ∧ i % 3 < m.l then m.n (i / 3) (invX m (i / 3) (i % 3)) else 0,
  (List.range 48).map fun i => if i / 3 < m.s ∧ i % 3 < m.l then ((invX m (i / 3) (i % 3) : Nat) : Int) else 0⟩

/-! normal words -/
def nkey (m : Mch) (k : Int) : Int := if k < 0 then -((m.tbl.fin (stN k) : Int) + 1) else (m.tbl.fin (stN k) : Int) + 1
def nstep (m : Mch) (out : Wd) (k : Int) : Wd :=
  if trivB m (stN k) = true then out else if out.getLast? = some (-(nkey m k)) then out.dropLast else out ++ [nkey m k]
def nrm (m : Mch) (g : Wd) : Wd := g.foldl (nstep m) []
theorem nrm_snoc (m : Mch) (g : Wd) (k : Int) : nrm m (g ++ [k]) = nstep m (nrm m g) k := by simp [nrm]
theorem take_snocI {g : Wd} {i : Nat} (h : i < g.length) : g.take (i + 1) = g.take i ++ [g[i]?.getD 0] := by
  rw [List.take_succ_eq_append_getElem h, List.getElem?_eq_getElem h]; rfl
theorem nkey_ok {m : Mch} {k : Int} (h : k ≠ 0 ∧ -(m.s : Int) ≤ k ∧ k ≤ m.s) : nkey m k ≠ 0 ∧ -(m.s : Int) ≤ nkey m k ∧ nkey m k ≤ m.s := by
  have h1 := stN_lt h
  have h2 := m.tbl.fin_le (stN k)
  simp only [nkey]
  split <;> omega
theorem nstep_len (m : Mch) (out : Wd) (k : Int) : (nstep m out k).length ≤ out.length + 1 := by
  simp only [nstep]
  split
  · omega
  · split
    · simp; omega
    · simp
theorem foldl_len (m : Mch) : ∀ (g out : Wd), (g.foldl (nstep m) out).length ≤ out.length + g.length
  | [], out => by simp
  | k :: g, out => by
    have := foldl_len m g (nstep m out k)
    have := nstep_len m out k
    simp only [List.foldl_cons, List.length_cons]; omega
theorem nrm_len (m : Mch) (g : Wd) : (nrm m g).length ≤ g.length := by have := foldl_len m g []; simpa [nrm] using this
theorem nstep_gw {m : Mch} {out : Wd} (ho : GW m out) {k : Int} (h : k ≠ 0 ∧ -(m.s : Int) ≤ k ∧ k ≤ m.s) : GW m (nstep m out k) := by
  simp only [nstep]
  split
  · exact ho
  · split
    · exact ho.sub fun x hx => (List.dropLast_sublist _).subset hx
    · exact ho.snoc (nkey_ok h)
theorem foldl_gw {m : Mch} : ∀ (g out : Wd), GW m g → GW m out → GW m (g.foldl (nstep m) out)
  | [], out, _, ho => ho
  | k :: g, out, hg, ho => foldl_gw g _ (fun x hx => hg x (List.mem_cons_of_mem _ hx)) (nstep_gw ho (hg k (List.mem_cons_self ..)))
theorem nrm_gw {m : Mch} {g : Wd} (hg : GW m g) : GW m (nrm m g) := foldl_gw g [] hg (GW.nil m)

/-! images and sections -/
def stpX (m : Mch) (k : Int) (x : Nat) : Nat := if 0 < k then m.on (stN k) x else invX m (stN k) x
def stpK (m : Mch) (k : Int) (x : Nat) : Int := if 0 < k then (m.nn (stN k) x : Int) + 1 else -(m.nn (stN k) (invX m (stN k) x) : Int) - 1
def ledX (m : Mch) : Wd → Nat → Nat
  | [], x => x
  | k :: t, x => ledX m t (stpX m k x)
def ledS (m : Mch) : Wd → Nat → Wd
  | [], _ => []
  | k :: t, x => stpK m k x :: ledS m t (stpX m k x)
theorem ledX_append (m : Mch) : ∀ (g h : Wd) (x : Nat), ledX m (g ++ h) x = ledX m h (ledX m g x)
  | [], _, _ => rfl
  | k :: g, h, x => by simp only [List.cons_append, ledX, ledX_append m g h]
theorem ledS_append (m : Mch) : ∀ (g h : Wd) (x : Nat), ledS m (g ++ h) x = ledS m g x ++ ledS m h (ledX m g x)
  | [], _, _ => rfl
  | k :: g, h, x => by simp only [List.cons_append, ledX, ledS, ledS_append m g h]
theorem ledS_len (m : Mch) : ∀ (g : Wd) (x : Nat), (ledS m g x).length = g.length
  | [], _ => rfl
  | k :: g, x => by simp only [ledS, List.length_cons, ledS_len m g]
theorem invM_get {m : Mch} {q x : Nat} (hq : q < 16) (hx : x < 3) : (invM m).n q x = (if q < m.s ∧ x < m.l then m.n q (invX m q x) else 0) ∧ (invM m).o q x = if q < m.s ∧ x < m.l then (invX m q x : Int) else 0 := by
  have hi : q * 3 + x < 48 := by omega
  have e1 : (q * 3 + x) / 3 = q := by omega
  have e2 : (q * 3 + x) % 3 = x := by omega
  simp only [Mch.n, Mch.o, invM, List.getElem?_map, List.getElem?_range hi, Option.map_some, Option.getD_some, e1, e2, and_self]
theorem invM_s (m : Mch) : (invM m).s = m.s := rfl
theorem invM_nn {m : Mch} (hok : m.Ok) {q x : Nat} (hq : q < m.s) (hx : x < m.l) : (invM m).nn q x = m.nn q (invX m q x) := by
  have := hok.s_le
  have := hok.l_le
  rw [Mch.nn, (invM_get (by omega) (by omega)).1, if_pos ⟨hq, hx⟩]; rfl
theorem invM_on {m : Mch} (hok : m.Ok) {q x : Nat} (hq : q < m.s) (hx : x < m.l) : (invM m).on q x = invX m q x := by
  have := hok.s_le
  have := hok.l_le
  rw [Mch.on, (invM_get (by omega) (by omega)).2, if_pos ⟨hq, hx⟩]; rfl
section
variable {m : Mch} (hok : m.Ok) (hwf : m.Wf)
include hok hwf
theorem on_surj {q y : Nat} (hq : q < m.s) (hy : y < m.l) : ∃ x, x < m.l ∧ m.on q x = y := by
  have h2 := hok.l_ge
  have h3 := hok.l_le
  have a0 := hok.on_lt hwf hq (show 0 < m.l by omega)
  have a1 := hok.on_lt hwf hq (show 1 < m.l by omega)
  have i01 := hok.on_inj hwf hq (show 0 < m.l by omega) (show 1 < m.l by omega)
  by_cases e0 : m.on q 0 = y
  · exact ⟨0, by omega, e0⟩
  by_cases e1 : m.on q 1 = y
  · exact ⟨1, by omega, e1⟩
  by_cases c : m.l = 3
  · have a2 := hok.on_lt hwf hq (show 2 < m.l by omega)
    have i02 := hok.on_inj hwf hq (show 0 < m.l by omega) (show 2 < m.l by omega)
    have i12 := hok.on_inj hwf hq (show 1 < m.l by omega) (show 2 < m.l by omega)
    exact ⟨2, by omega, by omega⟩
  · omega
theorem invX_spec {q y : Nat} (hq : q < m.s) (hy : y < m.l) : invX m q y < m.l ∧ m.on q (invX m q y) = y := by
  obtain ⟨x, hx, e⟩ := on_surj hok hwf hq hy
  cases hf : (List.range m.l).find? fun x => m.on q x == y with
  | none =>
    rw [List.find?_eq_none] at hf
    have := hf x (by simpa using hx)
    simp [e] at this
  | some z =>
    have h1 := List.find?_some hf
    have h2 := List.mem_of_find?_eq_some hf
    simp only [invX, hf, Option.getD_some]
    exact ⟨by simpa using h2, by simpa using h1⟩
theorem invX_of {q x : Nat} (hq : q < m.s) (hx : x < m.l) : invX m q (m.on q x) = x := by
  obtain ⟨h1, h2⟩ := invX_spec hok hwf hq (hok.on_lt hwf hq hx)
  exact hok.on_inj hwf hq h1 hx h2
theorem stpX_lt {k : Int} (h : k ≠ 0 ∧ -(m.s : Int) ≤ k ∧ k ≤ m.s) {x : Nat} (hx : x < m.l) : stpX m k x < m.l := by
  simp only [stpX]
  split
  · exact hok.on_lt hwf (stN_lt h) hx
  · exact (invX_spec hok hwf (stN_lt h) hx).1
theorem stpK_ok {k : Int} (h : k ≠ 0 ∧ -(m.s : Int) ≤ k ∧ k ≤ m.s) {x : Nat} (hx : x < m.l) : stpK m k x ≠ 0 ∧ -(m.s : Int) ≤ stpK m k x ∧ stpK m k x ≤ m.s := by
  have h1 := hok.nn_lt hwf (stN_lt h) hx
  have h2 := hok.nn_lt hwf (stN_lt h) (invX_spec hok hwf (stN_lt h) hx).1
  simp only [stpK]
  split <;> omega
theorem ledX_lt : ∀ {g : Wd}, GW m g → ∀ {x : Nat}, x < m.l → ledX m g x < m.l
  | [], _, x, hx => hx
  | k :: g, hg, x, hx => ledX_lt (g := g) (fun y hy => hg y (List.mem_cons_of_mem _ hy)) (stpX_lt hok hwf (hg k (List.mem_cons_self ..)) hx)
theorem ledS_gw : ∀ {g : Wd}, GW m g → ∀ {x : Nat}, x < m.l → GW m (ledS m g x)
  | [], _, x, hx => GW.nil m
  | k :: g, hg, x, hx => fun y hy => by
    simp only [ledS, List.mem_cons] at hy
    rcases hy with rfl | hy
    · exact stpK_ok hok hwf (hg k (List.mem_cons_self ..)) hx
    · exact ledS_gw (g := g) (fun y hy => hg y (List.mem_cons_of_mem _ hy)) (stpX_lt hok hwf (hg k (List.mem_cons_self ..)) hx) y hy
/-! the inverse machine is a machine -/
theorem invM_wf : (invM m).Wf := by
  have h3 := hok.l_le
  refine ⟨by simp [invM], by simp [invM], fun i => ?_, fun i => ?_, hwf.lb, hwf.sb⟩
  · by_cases hi : i < 48
    · simp only [invM, List.getElem?_map, List.getElem?_range hi, Option.map_some, Option.getD_some]
      split
      · exact hwf.nb _
      · omega
    · simp [invM, hi]
  · by_cases hi : i < 48
    · simp only [invM, List.getElem?_map, List.getElem?_range hi, Option.map_some, Option.getD_some]
      split
      · rename_i h
        have := (invX_spec hok hwf h.1 h.2).1
        omega
      · omega
    · simp [invM, hi]
theorem invM_ok : (invM m).Ok := by
  have hS := hok.S_eq
  have hL := hok.L_eq
  have h16 := hok.s_le
  have h3 := hok.l_le
  have S' : (invM m).S = m.s := hS
  have L' : (invM m).L = m.l := hL
  have hget : ∀ q x : Nat, (q : Int) < (invM m).S → (x : Int) < (invM m).L → (invM m).n q x = m.n q (invX m q x) ∧ (invM m).o q x = (invX m q x : Int) ∧ q < m.s ∧ x < m.l := fun q x hq hx => by
    rw [S'] at hq
    rw [L'] at hx
    have h1 := invM_get (m := m) (show q < 16 by omega) (show x < 3 by omega)
    rw [if_pos ⟨by omega, by omega⟩, if_pos ⟨by omega, by omega⟩] at h1
    exact ⟨h1.1, h1.2, by omega, by omega⟩
  refine ⟨hok.l2, hok.l3, hok.s1, hok.s16, fun q x hq hx => ?_, fun q x hq hx => ?_, fun q x y hq hx hy e => ?_⟩
  · obtain ⟨h1, h2, h4, h5⟩ := hget q x hq hx
    have h6 := invX_spec hok hwf h4 h5
    rw [h1]
    exact hok.nx q _ (by rw [hS]; omega) (by rw [hL]; omega)
  · obtain ⟨h1, h2, h4, h5⟩ := hget q x hq hx
    have h6 := invX_spec hok hwf h4 h5
    rw [h2, L']; omega
  · obtain ⟨h1, h2, h4, h5⟩ := hget q x hq hx
    obtain ⟨g1, g2, g4, g5⟩ := hget q y hq hy
    rw [h2, g2] at e
    have a := (invX_spec hok hwf h4 h5).2
    have b := (invX_spec hok hwf g4 g5).2
    rw [← a, ← b]
    congr 1
    omega
end
/-- a word leads all letters to themselves -/
def leavesB (m : Mch) (g : Wd) : Bool := (List.range m.l).all fun x => ledX m g x == x

/-! the search through the sections -/
def qPut (Q : List Wd) (s : Wd) : Option (List Wd × Nat) := if s ∈ Q then some (Q, Q.idxOf s) else if Q.length = 200 then none else some (Q ++ [s], Q.length)
/-- the sections of h at the first letters are put in -/
def qRow (m : Mch) (h : Wd) : Nat → List Wd → Option (List Wd × List Nat)
  | 0, Q => some (Q, [])
  | x + 1, Q => match qRow m h x Q with
    | none => none
    | some (Q', r) => match qPut Q' (nrm m (ledS m h x)) with
      | none => none
      | some (Q'', a) => some (Q'', r ++ [a])
/-- the first words of the queue are done; a code, if it has ended early -/
def bSt (m : Mch) (want : Wd → Bool) (g : Wd) : Nat → Except Int (List Wd × List (List Nat))
  | 0 => .ok ([nrm m g], [])
  | i + 1 => match bSt m want g i with
    | .error c => .error c
    | .ok (Q, N) => if i < Q.length then (if want (Q[i]?.getD []) = true then (match qRow m (Q[i]?.getD []) m.l Q with
        | none => .error 3
        | some (Q', r) => .ok (Q', N ++ [r])) else .error 5) else .ok (Q, N)
def secR (m : Mch) (want : Wd → Bool) (g : Wd) : Except Int (List Wd × List (List Nat)) := bSt m want g 200
theorem bSt_err {m : Mch} {want : Wd → Bool} {g : Wd} {i : Nat} {c : Int} (h : bSt m want g i = .error c) : ∀ j, bSt m want g (i + j) = .error c
  | 0 => h
  | j + 1 => by rw [← Nat.add_assoc, bSt, bSt_err h j]
theorem secR_err {m : Mch} {want : Wd → Bool} {g : Wd} {i : Nat} {c : Int} (h : bSt m want g i = .error c) (hi : i ≤ 200) : secR m want g = .error c := by
  have := bSt_err h (200 - i)
  rwa [show i + (200 - i) = 200 by omega] at this
theorem bSt_end {m : Mch} {want : Wd → Bool} {g : Wd} {i : Nat} {Q : List Wd} {N : List (List Nat)} (h : bSt m want g i = .ok (Q, N)) (hi : Q.length ≤ i) : ∀ j, bSt m want g (i + j) = .ok (Q, N)
  | 0 => h
  | j + 1 => by rw [← Nat.add_assoc, bSt, bSt_end h hi j]; simp only; rw [if_neg (by omega)]
theorem secR_end {m : Mch} {want : Wd → Bool} {g : Wd} {i : Nat} {Q : List Wd} {N : List (List Nat)} (h : bSt m want g i = .ok (Q, N)) (hi : Q.length ≤ i) (h200 : i ≤ 200) : secR m want g = .ok (Q, N) := by
  have := bSt_end h hi (200 - i)
  rwa [show i + (200 - i) = 200 by omega] at this
/-- what holds of the queue -/
structure QOk (m : Mch) (n : Nat) (Q : List Wd) : Prop where
  nodup : Q.Nodup
  gw : ∀ h ∈ Q, GW m h
  len : ∀ h ∈ Q, h.length ≤ n
  many : Q.length ≤ 200
theorem QOk.one {m : Mch} {g : Wd} (hg : GW m g) : QOk m g.length [nrm m g] :=
  ⟨by simp, fun h hh => by rw [List.mem_singleton.1 hh]; exact nrm_gw hg, fun h hh => by rw [List.mem_singleton.1 hh]; exact nrm_len m g, by simp⟩
theorem QOk.at {m : Mch} {n : Nat} {Q : List Wd} (h : QOk m n Q) {i : Nat} (hi : i < Q.length) : GW m (Q[i]?.getD []) ∧ (Q[i]?.getD []).length ≤ n := by
  rw [List.getElem?_eq_getElem hi]
  exact ⟨h.gw _ (List.getElem_mem hi), h.len _ (List.getElem_mem hi)⟩
theorem QOk.put {m : Mch} {n : Nat} {Q Q' : List Wd} {s : Wd} {a : Nat} (h : QOk m n Q) (hs : GW m s) (hl : s.length ≤ n) (hp : qPut Q s = some (Q', a)) : QOk m n Q' ∧ a < Q'.length ∧ Q.length ≤ Q'.length ∧ ∀ i, i < Q.length → Q'[i]? = Q[i]? := by
  simp only [qPut] at hp
  split at hp
  · rename_i hm
    injection hp with hp
    injection hp with h1 h2
    subst h1 h2
    exact ⟨h, List.idxOf_lt_length_iff.2 hm, Nat.le_refl _, fun _ _ => rfl⟩
  · rename_i hm
    split at hp
    · cases hp
    · rename_i hn
      injection hp with hp
      injection hp with h1 h2
      subst h1 h2
      have := h.many
      refine ⟨⟨?_, ?_, ?_, by simp; omega⟩, by simp, by simp, fun i hi => List.getElem?_append_left hi⟩
      · rw [List.nodup_append]
        exact ⟨h.nodup, by simp, fun a ha b hb => by rw [List.mem_singleton.1 hb]; intro e; subst e; exact hm ha⟩
      · intro x hx
        rcases List.mem_append.1 hx with hx | hx
        · exact h.gw x hx
        · rw [List.mem_singleton.1 hx]; exact hs
      · intro x hx
        rcases List.mem_append.1 hx with hx | hx
        · exact h.len x hx
        · rw [List.mem_singleton.1 hx]; exact hl
theorem QOk.row {m : Mch} (hok : m.Ok) (hwf : m.Wf) {n : Nat} {h : Wd} (hh : GW m h) (hl : h.length ≤ n) : ∀ {x : Nat}, x ≤ m.l → ∀ {Q Q' : List Wd} {r : List Nat}, QOk m n Q → qRow m h x Q = some (Q', r) →
    QOk m n Q' ∧ r.length = x ∧ (∀ a ∈ r, a < Q'.length) ∧ Q.length ≤ Q'.length ∧ ∀ i, i < Q.length → Q'[i]? = Q[i]?
  | 0, _, Q, Q', r, hQ, hr => by
    injection hr with hr
    injection hr with h1 h2
    subst h1 h2
    exact ⟨hQ, rfl, fun a ha => (by cases ha), Nat.le_refl _, fun _ _ => rfl⟩
  | x + 1, hx, Q, Q', r, hQ, hr => by
    simp only [qRow] at hr
    cases h1 : qRow m h x Q with
    | none => rw [h1] at hr; cases hr
    | some p =>
      obtain ⟨Q1, r1⟩ := p
      rw [h1] at hr
      simp only at hr
      obtain ⟨a1, a2, a3, a4, a5⟩ := QOk.row hok hwf hh hl (x := x) (by omega) hQ h1
      cases h2 : qPut Q1 (nrm m (ledS m h x)) with
      | none => rw [h2] at hr; cases hr
      | some p =>
        obtain ⟨Q2, a⟩ := p
        rw [h2] at hr
        injection hr with hr
        injection hr with e1 e2
        subst e1 e2
        have hs := ledS_gw hok hwf hh (x := x) (by omega)
        have hsl := nrm_len m (ledS m h x)
        rw [ledS_len] at hsl
        obtain ⟨b1, b2, b3, b4⟩ := a1.put (nrm_gw hs) (by omega) h2
        refine ⟨b1, by simp [a2], fun c hc => ?_, by omega, fun i hi => (b4 i (by omega)).trans (a5 i hi)⟩
        rcases List.mem_append.1 hc with hc | hc
        · have := a3 c hc; omega
        · rw [List.mem_singleton.1 hc]; exact b2
/-- what holds when the first words are done -/
structure BOk (m : Mch) (n : Nat) (Q : List Wd) (N : List (List Nat)) : Prop extends QOk m n Q where
  rows : N.length ≤ Q.length
  row : ∀ r ∈ N, r.length = m.l ∧ ∀ a ∈ r, a < Q.length
  pos : 1 ≤ Q.length
theorem bSt_ok {m : Mch} (hok : m.Ok) (hwf : m.Wf) (want : Wd → Bool) {g : Wd} (hg : GW m g) : ∀ (i : Nat) {Q : List Wd} {N : List (List Nat)}, bSt m want g i = .ok (Q, N) → BOk m g.length Q N ∧ (i ≤ Q.length → N.length = i) ∧ N.length ≤ i
  | 0, Q, N, h => by
    injection h with h
    injection h with h1 h2
    subst h1 h2
    exact ⟨⟨QOk.one hg, by simp, fun r hr => (by cases hr), by simp⟩, fun _ => rfl, Nat.le_refl _⟩
  | i + 1, Q, N, h => by
    rw [bSt] at h
    cases h1 : bSt m want g i with
    | error c => rw [h1] at h; cases h
    | ok p =>
      obtain ⟨Q1, N1⟩ := p
      obtain ⟨a1, a2, a3⟩ := bSt_ok hok hwf want hg i h1
      rw [h1] at h
      simp only at h
      split at h
      · rename_i hi
        split at h
        · cases h2 : qRow m (Q1[i]?.getD []) m.l Q1 with
          | none => rw [h2] at h; cases h
          | some p =>
            obtain ⟨Q2, r⟩ := p
            rw [h2] at h
            injection h with h
            injection h with e1 e2
            subst e1 e2
            have hq := a1.toQOk.at hi
            obtain ⟨b1, b2, b3, b4, b5⟩ := QOk.row hok hwf hq.1 hq.2 (Nat.le_refl _) a1.toQOk h2
            have a4 := a2 (by omega)
            refine ⟨⟨b1, by simp; omega, fun s hs => ?_, by have := a1.pos; omega⟩, fun _ => by simp; omega, by simp; omega⟩
            rcases List.mem_append.1 hs with hs | hs
            · exact ⟨(a1.row s hs).1, fun a ha => by have := (a1.row s hs).2 a ha; omega⟩
            · rw [List.mem_singleton.1 hs]; exact ⟨b2, b3⟩
        · cases h
      · injection h with h
        injection h with e1 e2
        subst e1 e2
        exact ⟨a1, fun hh => by omega, by omega⟩
def trvOf : Except Int (List Wd × List (List Nat)) → Bool × Int
  | .ok _ => (true, 0)
  | .error c => (false, if c = 5 then 0 else 3)
/-- whether a word is trivial, and the code -/
def trvR (m : Mch) (g : Wd) : Bool × Int := trvOf (secR m (leavesB m) g)
end Go.Proofs.Yteagecoiijhflaa

/- A region in drawn order whose loads are read ahead of stores to the same cells: S is held until one of the operations L (the stores) has come up. -/
namespace Go.Proofs.Yteagecoiijhflaa
open Go.RowKit
set_option linter.unusedVariables false
set_option linter.unusedSimpArgs false
section
variable {P : Program} {ops : Array Oper} {Q : Exit → Act → World → Prop} {md : Region.Mode} {S : World → Prop} {L : List Nat}

def Upto (S : World → Prop) (L : List Nat) (listed : Array Bool) (w : World) : Prop := S w ∨ ∃ l ∈ L, listed.getD l true = true

def AnyS (P : Program) (md : Region.Mode) (ops : Array Oper) (Q : Exit → Act → World → Prop) (S : World → Prop) (L : List Nat) : Nat → Array Bool → Act → World → Prop
  | 0, listed, a, w => Region.ready md ops listed = [] ∧ Q .normal a w
  | n + 1, listed, a, w => (Region.ready md ops listed = [] → Q .normal a w) ∧
    ∀ i ∈ Region.ready md ops listed, wpOp P ops Q i (fun a' w' => Upto S L (listed.setIfInBounds i true) w' ∧ AnyS P md ops Q S L n (listed.setIfInBounds i true) a' w') a w

theorem AnyS.any : ∀ (n : Nat) (listed : Array Bool) (a : Act) (w : World), AnyS P md ops Q S L n listed a w → wpAny P md ops Q n listed a w
  | 0, _, _, _, h => h
  | n + 1, _, _, _, h => ⟨h.1, fun i hi => wpOp_mono (fun a' w' h' => AnyS.any n _ a' w' h'.2) (h.2 i hi)⟩

theorem Upto.less {listed : Array Bool} {w : World} {i : Nat} (hL : i ∉ L) (h : Upto S L (listed.setIfInBounds i true) w) : Upto S L listed w :=
  h.imp id fun ⟨l, hl, h⟩ => ⟨l, hl, by
    have hne : i ≠ l := fun e => hL (by rw [e]; exact hl)
    rwa [getD_set_ne true hne] at h⟩
theorem Upto.more {listed : Array Bool} {w : World} {i : Nat} (hL : i ∉ L) (h : Upto S L listed w) : Upto S L (listed.setIfInBounds i true) w :=
  h.imp id fun ⟨l, hl, h⟩ => ⟨l, hl, by
    have hne : i ≠ l := fun e => hL (by rw [e]; exact hl)
    rwa [getD_set_ne true hne]⟩

/-- Each of L waits for i. -/
def WaitFor (md : Region.Mode) (ops : Array Oper) (L : List Nat) (i : Nat) : Bool := L.all fun l => match ops[l]? with | some o => o.after.any fun e => Region.binds md e && e.on == i | none => true

theorem AnyS.first {S' : World → Prop} {i : Nat} {oi : Oper} {v : Value} (hi : ops[i]? = some oi) (hsel : ∀ (j : Nat) (o : Oper) cs b, ops[j]? = some o → o.op ≠ .select cs b)
    (hQ : ∀ c a w, Q (.panic c) (a.put oi.dst v) w → Q (.panic c) a w) (hL : i ∉ L) (hS' : (∀ w, S' w) ∨ (S' = S ∧ WaitFor md ops L i = true)) :
    ∀ (n : Nat) (listed : Array Bool) (a : Act) (w : World),
      (∀ j oj, ops[j]? = some oj → j ≠ i → listed.getD j true = false → (∀ e ∈ oj.after, Region.binds md e = true → e.on ≠ i) → oi.apart ops oj = true) →
      ((∀ w, S' w) ∨ ∀ l ∈ L, listed.getD l true = false) →
      i ∈ Region.ready md ops listed → YieldsIf P ops S' oi v a → Upto S L listed w →
      AnyS P md ops Q S L n (listed.setIfInBounds i true) (a.put oi.dst v) w → AnyS P md ops Q S L (n + 1) listed a w := by
  have now : ∀ (listed : Array Bool) w, ((∀ w, S' w) ∨ ∀ l ∈ L, listed.getD l true = false) → Upto S L listed w → S' w := fun listed w hd h => by
    rcases hd with hd | hd
    · exact hd w
    · rcases hS' with hS' | ⟨rfl, _⟩
      · exact hS' w
      · rcases h with h | ⟨l, hl, h⟩
        · exact h
        · rw [hd l hl] at h; cases h
  intro n
  induction n with
  | zero =>
    intro listed a w _ hd hr hy hS H
    refine ⟨fun h => (by rw [h] at hr; cases hr), fun j hj => ?_⟩
    by_cases hji : j = i
    · subst hji; exact hy.wpOp hi (now _ _ hd hS) ⟨hS.more hL, H⟩
    · have := ready_mono hj hji
      rw [H.1] at this
      cases this
  | succ n ih =>
    intro listed a w hfree hd hr hy hS H
    refine ⟨fun h => (by rw [h] at hr; cases hr), fun j hj => ?_⟩
    by_cases hji : j = i
    · subst hji; exact hy.wpOp hi (now _ _ hd hS) ⟨hS.more hL, H⟩
    · have h1 := H.2 j (ready_mono hj hji)
      obtain ⟨hjun, oj, hoj, hall⟩ := mem_ready.1 hj
      have h0 := (mem_ready.1 hr).1
      have hnot : ∀ e ∈ oj.after, Region.binds md e = true → e.on ≠ i := fun e he hb heq => by
        have h1 := hall e he hb
        rw [heq] at h1
        rcases Nat.lt_or_ge i listed.size with h' | h'
        · simp [h'] at h0 h1; rw [h0] at h1; cases h1
        · simp [Array.getElem?_eq_none h'] at h1
      have h2 := wpOp_putIf hoj (hfree j oj hoj hji hjun hnot) (fun cs b => hsel i oi cs b hi) (fun cs b => hsel j oj cs b hoj) hQ hy h1
      have hfree' : ∀ k ok, ops[k]? = some ok → k ≠ i → (listed.setIfInBounds j true).getD k true = false →
          (∀ e ∈ ok.after, Region.binds md e = true → e.on ≠ i) → oi.apart ops ok = true := fun k ok hk hki hun hno => by
        refine hfree k ok hk hki ?_ hno
        by_cases hjk : j = k
        · subst hjk; exact hjun
        · rw [getD_set_ne true hjk] at hun; exact hun
      have hd' : (∀ w, S' w) ∨ ∀ l ∈ L, (listed.setIfInBounds j true).getD l true = false := by
        rcases hd with hd | hd
        · exact .inl hd
        rcases hS' with hS' | ⟨_, hw⟩
        · exact .inl hS'
        refine .inr fun l hl => ?_
        by_cases e : j = l
        · exfalso
          subst e
          have := (List.all_eq_true.1 hw) j hl
          rw [hoj] at this
          obtain ⟨e, he, hb⟩ := Array.any_eq_true'.1 this
          simp only [Bool.and_eq_true, beq_iff_eq] at hb
          exact hnot e he hb.1 hb.2
        · rw [getD_set_ne true e]; exact hd l hl
      refine wpOp_mono (fun a' w' h3 => ?_) h2
      have hS2 : Upto S L (listed.setIfInBounds j true) w' := by
        have := h3.2.1
        rw [Array.setIfInBounds_comm _ _ (Ne.symm hji)] at this
        exact this.less hL
      refine ⟨hS2, ih (listed.setIfInBounds j true) a' w' hfree' hd' (ready_mono hr (Ne.symm hji)) h3.1 hS2 ?_⟩
      rw [Array.setIfInBounds_comm _ _ hji]
      exact h3.2.2

/-- what yields in every world is taken first -/
theorem AnyS.take {i : Nat} {oi : Oper} {v : Value} {n : Nat} {listed : Array Bool} {a : Act} {w : World} (hi : ops.toList[i]? = some oi)
    (hs : Region.noSelect ops = true) (hf : Region.free md ops listed i = true) (hr : (Region.ready md ops listed).contains i = true) (hL : L.contains i = false)
    (hQ : ∀ c a w, Q (.panic c) (a.put oi.dst v) w → Q (.panic c) a w) (hw : Region.wanted oi (yielded ops a.tmps) = true) (hy : ∀ w, (execOp a.eval oi).run P w = .ok (.value v) w) (hS : Upto S L listed w)
    (h : Upto S L (listed.setIfInBounds i true) w → AnyS P md ops Q S L n (listed.setIfInBounds i true) (a.put oi.dst v) w) : AnyS P md ops Q S L (n + 1) listed a w :=
  AnyS.first (S' := fun _ => True) (by rwa [Array.getElem?_toList] at hi) (Region.noSelect_spec hs) hQ (by simpa using hL) (.inl fun _ => trivial) n listed a w (Region.free_spec (by rwa [Array.getElem?_toList] at hi) hf) (.inl fun _ => trivial) (by simpa using hr) (.inl ⟨hw, fun w _ => hy w⟩) hS (h (hS.more (by simpa using hL)))
/-- what yields in every world that meets S is taken first, ahead of the stores -/
theorem AnyS.takeS {i : Nat} {oi : Oper} {v : Value} {n : Nat} {listed : Array Bool} {a : Act} {w : World} (hi : ops.toList[i]? = some oi)
    (hs : Region.noSelect ops = true) (hf : Region.free md ops listed i = true) (hr : (Region.ready md ops listed).contains i = true) (hL : L.contains i = false)
    (hW : WaitFor md ops L i = true) (hd : (L.all fun l => !listed.getD l true) = true)
    (hQ : ∀ c a w, Q (.panic c) (a.put oi.dst v) w → Q (.panic c) a w) (hw : Region.wanted oi (yielded ops a.tmps) = true) (hy : ∀ w, S w → (execOp a.eval oi).run P w = .ok (.value v) w) (hS : Upto S L listed w)
    (h : Upto S L (listed.setIfInBounds i true) w → AnyS P md ops Q S L n (listed.setIfInBounds i true) (a.put oi.dst v) w) : AnyS P md ops Q S L (n + 1) listed a w :=
  AnyS.first (S' := S) (by rwa [Array.getElem?_toList] at hi) (Region.noSelect_spec hs) hQ (by simpa using hL) (.inr ⟨rfl, hW⟩) n listed a w (Region.free_spec (by rwa [Array.getElem?_toList] at hi) hf) (.inr fun l hl => by simpa using (List.all_eq_true.1 hd) l hl) (by simpa using hr) (.inl ⟨hw, hy⟩) hS (h (hS.more (by simpa using hL)))

def AllS (P : Program) (md : Region.Mode) (ops : Array Oper) (Q : Exit → Act → World → Prop) (S : World → Prop) (L : List Nat) (n : Nat) (listed : Array Bool) (a : Act) (w : World) (rs : List Nat) : Prop :=
  ∀ i ∈ rs, wpOp P ops Q i (fun a' w' => Upto S L (listed.setIfInBounds i true) w' ∧ AnyS P md ops Q S L n (listed.setIfInBounds i true) a' w') a w
theorem AllS.nil {n : Nat} {listed : Array Bool} {a : Act} {w : World} : AllS P md ops Q S L n listed a w [] := fun _ h => by cases h
theorem AllS.cons {n : Nat} {listed : Array Bool} {a : Act} {w : World} {i : Nat} {o : Oper} {rs : List Nat} (ho : ops.toList[i]? = some o)
    (h : ∀ K' : Act → World → Prop, Shut (∀ a w, Upto S L (listed.setIfInBounds i true) w → (Upto S L (listed.setIfInBounds i true) w → AnyS P md ops Q S L n (listed.setIfInBounds i true) a w) → K' a w) → if Region.wanted o (yielded ops a.tmps) = true then Oper.wp P o a w K' Q else K' (a.put o.dst undef) w)
    (hs : AllS P md ops Q S L n listed a w rs) : AllS P md ops Q S L n listed a w (i :: rs) := fun j hj => by
  rcases List.mem_cons.1 hj with rfl | hj
  · exact wpOp_step (by rwa [Array.getElem?_toList] at ho) (fun K' hK => h K' (fun a w hS hW => hK a w ⟨hS, hW hS⟩))
  · exact hs j hj
theorem AnyS.branch {rs : List Nat} {n : Nat} {listed : Array Bool} {a : Act} {w : World} (hr : Region.ready md ops listed = rs) (hne : rs ≠ [])
    (h : AllS P md ops Q S L n listed a w rs) : AnyS P md ops Q S L (n + 1) listed a w := ⟨fun h0 => absurd (hr ▸ h0) hne, hr ▸ h⟩
theorem AnyS.done {listed : Array Bool} {a : Act} {w : World} (hr : Region.ready md ops listed = []) (h : Q .normal a w) : ∀ n, AnyS P md ops Q S L n listed a w
  | 0 => ⟨hr, h⟩
  | _ + 1 => ⟨fun _ => h, by rw [hr]; simp⟩
/-- back into the region, the world a letter of which Φ is known -/
theorem Shut.abs {n : Nat} {listed : Array Bool} {K : Act → World → Prop} (hK : Shut (∀ a w, Upto S L listed w → (Upto S L listed w → AnyS P md ops Q S L n listed a w) → K a w)) (Φ : World → Prop) {a : Act} {w : World} (hΦ : Φ w)
    (hS : ∀ w, Φ w → S w) (h : ∀ w, Φ w → Upto S L listed w → AnyS P md ops Q S L n listed a w) : K a w := hK.out a w (.inl (hS w hΦ)) fun hU => h w hΦ hU
/-- the beginning -/
theorem region_S {id : Nat} {a : Act} {w : World} (S : World → Prop) (L : List Nat) (n : Nat) (hn : ops.size = n) (hm : P.follows .mixedOrders = true) (hS : S w.drew)
    (h : Upto S L (Array.replicate n false) w.drew → AnyS P .any ops Q S L n (Array.replicate n false) a w.drew) : (Code.region id ops true).wp P Q a w := by
  subst hn
  exact wp_region_any hm (AnyS.any _ _ _ _ (h (.inl hS)))
end
end Go.Proofs.Yteagecoiijhflaa

/- A function's own memory in one bundle: blocks known whole, and slices that grow. -/
namespace Go.Proofs.Yteagecoiijhflaa
open Go.RowKit
set_option linter.unusedVariables false
set_option linter.unusedSimpArgs false

/-- since w0, memory from block B on is the call's own: the blocks L are known whole, the slices G own their rows; all lie apart -/
structure Mm (B : Nat) (w0 w : World) (L : List (Nat × List Value × TypeId)) (G : List (Value × TypeId × List Value)) : Prop where
  below : Below B w0 w
  size : B ≤ w.heap.size
  blk : ∀ x ∈ L, B ≤ x.1 ∧ Blk w x.1 x.2.1 x.2.2
  dist : L.Pairwise fun x y => x.1 ≠ y.1
  own : ∀ x ∈ G, w.ownsRow B x.2.1 1 x.1 x.2.2.length x.2.2
  sep : ∀ x ∈ G, ∀ y ∈ L, x.1.ownBlock ≠ some y.1
  gdist : G.Pairwise fun x y => ∀ b, x.1.ownBlock = some b → y.1.ownBlock ≠ some b

theorem Mm.start (w : World) : Mm w.heap.size w w [] [] :=
  ⟨Below.refl _ _, Nat.le_refl _, fun _ h => (by cases h), List.Pairwise.nil, fun _ h => (by cases h), fun _ h => (by cases h), List.Pairwise.nil⟩

section
variable {B : Nat} {w0 w : World} {L : List (Nat × List Value × TypeId)} {G : List (Value × TypeId × List Value)}

theorem Mm.ownlt (h : Mm B w0 w L G) {x : Value × TypeId × List Value} (hx : x ∈ G) {g : Nat} (hg : x.1.ownBlock = some g) : g < w.heap.size := (World.ownsRow.lt (h.own x hx) g hg).2

/-- a call that leaves all that was there as it was -/
theorem Mm.call (h : Mm B w0 w L G) {w' : World} (hb : Below w.heap.size w w') : Mm B w0 w' L G := by
  refine ⟨h.below.trans (hb.mono h.size), Nat.le_trans h.size hb.size, fun x hx => ⟨(h.blk x hx).1, (h.blk x hx).2.keep hb⟩, h.dist, fun x hx => ?_, h.sep, h.gdist⟩
  have hg : w.grownBy w' none := ⟨hb.os, hb.tape, hb.output, hb.size, fun k hk _ => hb.block k hk⟩
  exact World.ownsRow.kept (h.own x hx) hg (by by_cases e : x.1.ownBlock = none <;> simp [e])
theorem Mm.drewN (h : Mm B w0 w L G) (n : Nat) : Mm B w0 (w.drewN n) L G := h.call ⟨rfl, rfl, rfl, Nat.le_refl _, fun _ _ => rfl⟩
theorem Mm.drew (h : Mm B w0 w L G) : Mm B w0 w.drew L G := h.drewN 1
theorem Mm.allocO (h : Mm B w0 w L G) (o : Obj) : Mm B w0 (w.alloc o) L G := h.call ((Below.refl _ _).alloc (Nat.le_refl _) _)
theorem Mm.alloc (h : Mm B w0 w L G) (cs : Array Value) (T : TypeId) : Mm B w0 (w.alloc (.cells cs T)) ((w.heap.size, cs.toList, T) :: L) G := by
  have h' := h.allocO (.cells cs T)
  refine ⟨h'.below, h'.size, fun x hx => ?_, List.pairwise_cons.2 ⟨fun y hy => ?_, h.dist⟩, h'.own, fun x hx y hy => ?_, h.gdist⟩
  · rcases List.mem_cons.1 hx with rfl | hx
    · exact ⟨h.size, Blk.new w cs T⟩
    · exact h'.blk x hx
  · have := (h.blk y hy).2.lt; simp only; omega
  · rcases List.mem_cons.1 hy with rfl | hy
    · intro e; have := h.ownlt hx e; omega
    · exact h.sep x hx y hy
/-- a slice header over no memory, or a row that is known whole, becomes one that grows -/
theorem Mm.addNil (h : Mm B w0 w L G) (E : TypeId) (c : Nat := 0) : Mm B w0 w L ((.slice none 0 0, E, []) :: G) := by
  refine ⟨h.below, h.size, h.blk, h.dist, fun x hx => ?_, fun x hx y hy => ?_, List.pairwise_cons.2 ⟨fun y hy b e => by simp [Value.ownBlock] at e, h.gdist⟩⟩
  · rcases List.mem_cons.1 hx with rfl | hx
    · exact World.ownsRow_nil _ _ _ _
    · exact h.own x hx
  · rcases List.mem_cons.1 hx with rfl | hx
    · simp [Value.ownBlock]
    · exact h.sep x hx y hy
theorem Mm.addOwn (h : Mm B w0 w L G) {b : Nat} {cs : List Value} {T : TypeId} (hb : (b, cs, T) ∈ L) (n : Nat) (hn : n = cs.length) (hm : n ≤ 2000000) : Mm B w0 w (L.filter fun x => x.1 != b) ((.slice (some ⟨b, 0, none⟩) n n, T, cs) :: G) := by
  subst hn
  have hB := h.blk _ hb
  refine ⟨h.below, h.size, fun x hx => h.blk x (List.mem_filter.1 hx).1, h.dist.sublist List.filter_sublist, fun x hx => ?_, fun x hx y hy => ?_, List.pairwise_cons.2 ⟨fun y hy c e => ?_, h.gdist⟩⟩
  · rcases List.mem_cons.1 hx with rfl | hx
    · refine ⟨by simp, .inr ⟨b, cs.length, cs.toArray, rfl, hB.1, hB.2, ?_⟩⟩
      simp [maxLen]; omega
    · exact h.own x hx
  · obtain ⟨hy1, hy2⟩ := List.mem_filter.1 hy
    rcases List.mem_cons.1 hx with rfl | hx
    · simp only [Value.ownBlock]; intro e; simp at e hy2; exact hy2 e.symm
    · exact h.sep x hx y hy1
  · simp only [Value.ownBlock, Option.some.injEq] at e
    subst e
    exact h.sep y hy _ hb

/-- blocks that are no longer looked at -/
theorem Mm.sub (h : Mm B w0 w L G) {L' : List (Nat × List Value × TypeId)} (hs : L'.Sublist L) : Mm B w0 w L' G :=
  ⟨h.below, h.size, fun x hx => h.blk x (hs.subset hx), h.dist.sublist hs, h.own, fun x hx y hy => h.sep x hx y (hs.subset hy), h.gdist⟩
/-- a call that hands a slice of its own back -/
theorem Mm.callOwn (h : Mm B w0 w L G) {w' : World} (hb : Below w.heap.size w w') {v : Value} {E : TypeId} {n : Nat} {xs : List Value} (ho : w'.ownsRow w.heap.size E 1 v n xs) (hn : n = xs.length) : Mm B w0 w' L ((v, E, xs) :: G) := by
  subst hn
  have h' := h.call hb
  have hge : ∀ g, v.ownBlock = some g → w.heap.size ≤ g := fun g hg => (World.ownsRow.lt ho g hg).1
  have ho' : w'.ownsRow B E 1 v xs.length xs := by
    refine ⟨ho.1, ?_⟩
    rcases ho.2 with hn | ⟨g, cap, cur, hv, h1, rest⟩
    · exact .inl hn
    · exact .inr ⟨g, cap, cur, hv, Nat.le_trans h.size h1, rest⟩
  refine ⟨h'.below, h'.size, h'.blk, h'.dist, fun x hx => ?_, fun x hx y hy => ?_, List.pairwise_cons.2 ⟨fun y hy b e e' => ?_, h.gdist⟩⟩
  · rcases List.mem_cons.1 hx with rfl | hx
    · exact ho'
    · exact h'.own x hx
  · rcases List.mem_cons.1 hx with rfl | hx
    · intro e; have := hge _ e; have := (h.blk y hy).2.lt; omega
    · exact h.sep x hx y hy
  · have := hge _ e; have := h.ownlt hy e'; omega

theorem mem_of_get {α : Type} {l : List α} {i : Nat} {x : α} (h : l[i]? = some x) : x ∈ l := List.mem_of_getElem? h
theorem Mm.at (h : Mm B w0 w L G) (i : Nat) {x : Nat × List Value × TypeId} (hi : L[i]? = some x) : Blk w x.1 x.2.1 x.2.2 := (h.blk x (mem_of_get hi)).2
theorem pairwise_get {α : Type} {R : α → α → Prop} (hs : ∀ x y, R x y → R y x) {l : List α} (h : l.Pairwise R) {i j : Nat} {x y : α} (hi : l[i]? = some x) (hj : l[j]? = some y) (hne : i ≠ j) : R x y := by
  rw [List.pairwise_iff_getElem] at h
  obtain ⟨hi', rfl⟩ := List.getElem?_eq_some_iff.1 hi
  obtain ⟨hj', rfl⟩ := List.getElem?_eq_some_iff.1 hj
  rcases Nat.lt_or_ge i j with c | c
  · exact h i j hi' hj' c
  · exact hs _ _ (h j i hj' hi' (by omega))

theorem mem_set_of {α : Type} {l : List α} {i : Nat} {x y : α} (h : x ∈ l.set i y) : x = y ∨ ∃ j, j ≠ i ∧ l[j]? = some x := by
  obtain ⟨j, hj⟩ := List.mem_iff_getElem?.1 h
  by_cases e : j = i
  · subst e
    rw [List.getElem?_set] at hj
    simp only [if_true] at hj
    split at hj
    · exact .inl (Option.some.inj hj).symm
    · cases hj
  · rw [List.getElem?_set_ne (Ne.symm e)] at hj
    exact .inr ⟨j, e, hj⟩

/-- cells of the block number i are written -/
theorem Mm.setCells (h : Mm B w0 w L G) (i : Nat) {b : Nat} {cs : List Value} {T : TypeId} (hi : L[i]? = some (b, cs, T)) (o : Nat) (vs : List Value) : Mm B w0 (w.setCells b o vs) (L.set i (b, splice cs o vs, T)) G := by
  have hb := h.blk _ (mem_of_get hi)
  have hsym : ∀ x y : Nat × List Value × TypeId, x.1 ≠ y.1 → y.1 ≠ x.1 := fun _ _ h => Ne.symm h
  have hsz : (w.setCells b o vs).heap.size = w.heap.size := size_setCells b vs w o
  refine ⟨below_setCells hb.1 vs h.below o, by rw [hsz]; exact h.size, fun x hx => ?_, ?_, fun x hx => ?_, fun x hx y hy => ?_, h.gdist⟩
  · rcases mem_set_of hx with rfl | ⟨j, hj, hx⟩
    · exact ⟨hb.1, hb.2.setCells vs o⟩
    · have := h.blk x (mem_of_get hx)
      exact ⟨this.1, this.2.setsOther (pairwise_get hsym h.dist hx hi hj) vs o⟩
  · have e : (L.set i (b, splice cs o vs, T)).map (·.1) = L.map (·.1) := by
      rw [List.map_set]
      apply List.ext_getElem?
      intro k
      by_cases hk : k = i
      · subst hk
        have hlt : k < L.length := (List.getElem?_eq_some_iff.1 hi).1
        rw [List.getElem?_set_self (by simpa using hlt), List.getElem?_map, hi]; rfl
      · rw [List.getElem?_set_ne (Ne.symm hk)]
    have hd : (L.map (·.1)).Pairwise (· ≠ ·) := List.pairwise_map.2 h.dist
    rw [← e] at hd
    exact List.pairwise_map.1 hd
  · have ho := h.own x hx
    refine ⟨ho.1, ?_⟩
    rcases ho.2 with hn | ⟨g, cap, cur, hv, h1, h2, rest⟩
    · exact .inl hn
    · have hg : Blk w g cur.toList x.2.1 := by show _ = _; simpa using h2
      have hne : g ≠ b := fun e => h.sep x hx _ (mem_of_get hi) (by rw [hv, e]; rfl)
      have := hg.setsOther hne vs o
      exact .inr ⟨g, cap, cur, hv, h1, by simpa [Blk] using this, rest⟩
  · rcases mem_set_of hy with rfl | ⟨j, hj, hy⟩
    · exact h.sep x hx (b, cs, T) (mem_of_get hi)
    · exact h.sep x hx y (mem_of_get hy)
theorem Mm.setCell (h : Mm B w0 w L G) (i : Nat) {b : Nat} {cs : List Value} {T : TypeId} (hi : L[i]? = some (b, cs, T)) (o : Nat) (v : Value) : Mm B w0 (w.setCell ⟨b, o, none⟩ v) (L.set i (b, cs.set o v, T)) G := h.setCells i hi o [v]
theorem Mm.setAll (h : Mm B w0 w L G) (i : Nat) {b : Nat} {cs : List Value} {T : TypeId} (hi : L[i]? = some (b, cs, T)) {vs : List Value} (hl : vs.length = cs.length) : Mm B w0 (w.setCells b 0 vs) (L.set i (b, vs, T)) G := by
  have := h.setCells i hi 0 vs
  rwa [splice_all hl] at this

/-- an append to the slice number i, behind a new block with what is put in -/
theorem Mm.grow (h : Mm B w0 w L G) (i : Nat) {v : Value} {E : TypeId} {xs : List Value} (hi : G[i]? = some (v, E, xs)) (o : Obj) {news : List Value} {g cap m : Nat} {w' : World} (hm : m = news.length)
    (hown : w'.ownsRow B E 1 (.slice (some ⟨g, 0, none⟩) (xs.length + m) cap) (xs.length + m) (xs ++ news)) (hgrow : (w.alloc o).grownBy w' v.ownBlock) (hlies : v.ownBlock = some g ∨ g = (w.alloc o).heap.size) :
    Mm B w0 w' L (G.set i (.slice (some ⟨g, 0, none⟩) (xs.length + m) cap, E, xs ++ news)) := by
  have hv := mem_of_get hi
  have hs : (w.alloc o).heap.size = w.heap.size + 1 := by simp
  have hsz := hgrow.size
  have ha := h.allocO o
  have hblock : ∀ k, k < w.heap.size → v.ownBlock ≠ some k → w'.heap[k]? = w.heap[k]? := fun k hk hne =>
    (hgrow.block k (by omega) (Ne.symm hne)).trans (Below.heap_alloc w o k hk)
  have hnb : ∀ k, k < w.heap.size → v.ownBlock ≠ some k → (Value.slice (some ⟨g, 0, none⟩) (xs.length + m) cap).ownBlock ≠ some k := fun k hk hne e => by
    simp only [Value.ownBlock, Option.some.injEq] at e
    rcases hlies with h' | h'
    · rw [h', e] at hne; exact hne rfl
    · omega
  have hsym : ∀ x y : Value × TypeId × List Value, (∀ b, x.1.ownBlock = some b → y.1.ownBlock ≠ some b) → ∀ b, y.1.ownBlock = some b → x.1.ownBlock ≠ some b := fun x y h b e e' => h b e' e
  refine ⟨?_, by have := h.size; omega, fun x hx => ⟨(h.blk x hx).1, (hblock _ (h.blk x hx).2.lt (h.sep _ hv x hx)).trans (h.blk x hx).2⟩, h.dist, fun x hx => ?_, fun x hx y hy => ?_, ?_⟩
  · refine ⟨hgrow.os.trans ha.below.os, hgrow.tape.trans ha.below.tape, hgrow.output.trans ha.below.output, by have := h.below.size; omega, fun k hk => ?_⟩
    have hkw : k < w.heap.size := by have := h.size; omega
    exact (hblock k hkw (fun e => by have := (World.ownsRow.lt (h.own _ hv) k e).1; omega)).trans (h.below.block k hk)
  · rcases mem_set_of hx with rfl | ⟨j, hj, hx⟩
    · have : (xs ++ news).length = xs.length + m := by rw [List.length_append, hm]
      simp only [this]
      exact hown
    · have ho := h.own x (mem_of_get hx)
      refine ⟨ho.1, ?_⟩
      rcases ho.2 with hn | ⟨g', cap', cur, hv', h1, h2, rest⟩
      · exact .inl hn
      · have hlt := h.ownlt (mem_of_get hx) (by rw [hv']; rfl : x.1.ownBlock = some g')
        exact .inr ⟨g', cap', cur, hv', h1, (hblock g' hlt (pairwise_get hsym h.gdist hx hi hj g' (by rw [hv']; rfl))).trans h2, rest⟩
  · rcases mem_set_of hx with rfl | ⟨j, hj, hx⟩
    · exact hnb _ (h.blk y hy).2.lt (h.sep _ hv y hy)
    · exact h.sep x (mem_of_get hx) y hy
  · rw [List.pairwise_iff_getElem]
    intro a b ha' hb' hab c e
    simp only [List.getElem_set] at e ⊢
    simp only [List.length_set] at ha' hb'
    by_cases e1 : i = a
    · subst e1
      simp only [if_true] at e
      rw [if_neg (by omega)]
      intro e2
      have hlt := h.ownlt (List.getElem_mem hb') e2
      exact hnb c hlt (pairwise_get hsym h.gdist (List.getElem?_eq_getElem hb') hi (by omega) c e2) e
    · rw [if_neg e1] at e
      by_cases e2 : i = b
      · subst e2
        simp only [if_true]
        have hlt := h.ownlt (List.getElem_mem ha') e
        exact hnb c hlt (pairwise_get hsym h.gdist (List.getElem?_eq_getElem ha') hi (by omega) c e)
      · rw [if_neg e2]
        exact (List.pairwise_iff_getElem.1 h.gdist) a b ha' hb' hab c e

theorem Mm.mach (h : Mm B w0 w L G) (i : Nat) {b : Nat} {m : Mch} {T : TypeId} (hi : L[i]? = some (b, m.cells, T)) : MAt w b 0 m := (h.at i hi).all

/-- 'out = append(out, u)', u of one cell, to the slice number i -/
theorem Mm.appendAt {P : Program} {ops : Array Oper} {rest : List Oper} {o : Oper} {a : Act} {Q : Exit → Act → World → Prop} (hgd : o.guard = none) (s x : Operand) (t : TypeId)
    (ho : o.op = .call { callee := .builtin .append, args := #[s, x], argTypes := #[t, t] })
    (h : Mm B w0 w L G) (i : Nat) {v : Value} {E : TypeId} {xs : List Value} (hi : G[i]? = some (v, E, xs)) {i0 : TypeInfo} {z : Value} {bytes : Nat} (ht : P.underlying t = some (.slice E)) (hI : P.info? E = some i0) (hz : i0.zero = some z)
    (hsize : i0.size = 1) (hby : i0.bytes = bytes) (hzs : z.cells.size = 1) {u : Value} (hs : a.eval s = v) (b : Nat) (hb : w.heap.size = b) (hx : a.eval x = .slice (some ⟨b, 0, none⟩) 1 1) (hu : u.oneCell' = true)
    (hlen : xs.length ≤ 1000000) (hbytes : bytes ≤ 1000)
    (hk : ∀ g cap w', Mm B w0 w' L (G.set i (.slice (some ⟨g, 0, none⟩) (xs.length + 1) cap, E, xs ++ [u])) → wpList P ops Q rest (a.put o.dst (.slice (some ⟨g, 0, none⟩) (xs.length + 1) cap)) w') :
    wpList P ops Q (o :: rest) a (w.alloc (.cells #[u] E)) := by
  subst hb
  refine wpList_append_lies _ hgd s x t ho B E i0 z 1 bytes ht hI hz hsize hby hzs (by decide) v xs.length xs hs (World.ownsRow.alloc (h.own _ (mem_of_get hi)) _) ⟨w.heap.size, 0, none⟩ 1 1 [u] hx rfl ?_ ?_ (by omega) ?_ ?_ ?_ _ rfl ?_
  · intro j y hj
    have hb := Blk.new w #[u] E
    have hadd : (⟨w.heap.size, 0, none⟩ : Addr).add j = ⟨w.heap.size, j, none⟩ := by unfold Addr.add; split <;> simp_all
    rw [hadd]
    exact hb.cell' hj
  · intro y hy
    rw [List.mem_singleton] at hy
    rw [hy]; exact hu
  · simp [maxLen]; omega
  · calc (xs.length + 1) * bytes ≤ 1000001 * 1000 := Nat.mul_le_mul (by omega) hbytes
      _ ≤ _ := by omega
  · have := h.size; simp; omega
  · intro g cap w' hown hgrow hlies hlt
    exact hk g cap w' (h.grow i hi _ rfl hown hgrow hlies)

theorem Mm.append {P : Program} {ops : Array Oper} {rest : List Oper} {o : Oper} {a : Act} {Q : Exit → Act → World → Prop} (hgd : o.guard = none) (s x : Operand) (t : TypeId)
    (ho : o.op = .call { callee := .builtin .append, args := #[s, x], argTypes := #[t, t] })
    (h : Mm B w0 w L G) (i : Nat) {v : Value} {E : TypeId} {xs : List Value} (hi : G[i]? = some (v, E, xs)) {i0 : TypeInfo} {z : Value} {bytes : Nat} (ht : P.underlying t = some (.slice E)) (hI : P.info? E = some i0) (hz : i0.zero = some z)
    (hsize : i0.size = 1) (hby : i0.bytes = bytes) (hzs : z.cells.size = 1) {u : Value} (hs : a.eval s = v) (hx : a.eval x = .slice (some ⟨w.heap.size, 0, none⟩) 1 1) (hu : u.oneCell' = true)
    (hlen : xs.length ≤ 1000000) (hbytes : bytes ≤ 1000)
    (hk : ∀ g cap w', Mm B w0 w' L (G.set i (.slice (some ⟨g, 0, none⟩) (xs.length + 1) cap, E, xs ++ [u])) → wpList P ops Q rest (a.put o.dst (.slice (some ⟨g, 0, none⟩) (xs.length + 1) cap)) w') :
    wpList P ops Q (o :: rest) a (w.alloc (.cells #[u] E)) := Mm.appendAt hgd s x t ho h i hi ht hI hz hsize hby hzs hs _ rfl hx hu hlen hbytes hk

end
end Go.Proofs.Yteagecoiijhflaa

/- IsMachine and its reference: both ask whether a struct is a machine. -/
namespace Go.Proofs.Yteagecoiijhflaa
open Go.RowKit
set_option linter.unusedVariables false
set_option linter.unusedSimpArgs false

theorem and_bit : ∀ t, t < 8 → ∀ o, o < 3 → (bits BinOp.and IntKind.i64 ((t : Nat) / 2 ^ o) 1 == 1) = (t : Nat).testBit o := by decide
theorem or_bit : ∀ t, t < 8 → ∀ o, o < 3 → bits BinOp.or IntKind.i64 (t : Nat) (wrap64 (2 ^ o)) = ((t ||| 2 ^ o : Nat) : Int) ∧ (t ||| 2 ^ o : Nat) < 8 := by decide +kernel

/-- the letters that a state has put out before x, as a mask -/
def SeenM (m : Mch) (q k t : Nat) : Prop := t < 8 ∧ ∀ v, v < 3 → t.testBit v = (List.range k).any fun y => decide (m.o q y = (v : Int))

theorem SeenM.zero (m : Mch) (q : Nat) : SeenM m q 0 0 := ⟨by omega, by simp⟩

theorem SeenM.step {m : Mch} {q k t o : Nat} (h : SeenM m q k t) (ho : m.o q k = (o : Int)) (hlt : o < 3) : SeenM m q (k + 1) (t ||| 2 ^ o) := by
  refine ⟨(or_bit t h.1 o hlt).2, fun v hv => ?_⟩
  rw [Nat.testBit_or, h.2 v hv, List.range_succ, List.any_append, Nat.testBit_two_pow]
  simp only [List.any_cons, List.any_nil, Bool.or_false, ho]
  congr 1
  simp
  omega

theorem SeenM.all {m : Mch} {q k t o : Nat} (h : SeenM m q k t) (ho : m.o q k = (o : Int)) (hlt : o < 3) :
    ((List.range k).all fun y => m.o q y != m.o q k) = !t.testBit o := by
  rw [h.2 o hlt, List.not_any_eq_all_not, ho]
  congr 1

def rowUpto (m : Mch) (q k : Nat) : Bool := (List.range k).all fun x => entryP m q x
theorem rowUpto_succ (m : Mch) (q k : Nat) : rowUpto m q (k + 1) = (rowUpto m q k && entryP m q k) := by
  simp [rowUpto, List.range_succ, List.all_append]
theorem row_false {m : Mch} {q k : Nat} (hk : k < 3) (h : entryP m q k = false) : rowP m q = false := by
  rw [rowP, List.all_eq_false]
  exact ⟨k, by simpa using hk, by simp [h]⟩

theorem entry_idle {m : Mch} {q k : Nat} (h : ¬ ((q : Int) < m.S ∧ (k : Int) < m.L)) : entryP m q k = (decide (m.n q k = 0) && decide (m.o q k = 0)) := by
  have : (decide (m.S ≤ (q : Int)) || decide (m.L ≤ (k : Int))) = true := by
    rw [Bool.or_eq_true, decide_eq_true_eq, decide_eq_true_eq]; omega
  simp only [entryP, this, if_true]
  rw [Bool.eq_iff_iff]
  simp
theorem entry_act {m : Mch} {q k : Nat} (h : (q : Int) < m.S ∧ (k : Int) < m.L) :
    entryP m q k = (decide (m.n q k < m.S) && decide (m.o q k < m.L) && (List.range k).all fun y => m.o q y != m.o q k) := by
  have : (decide (m.S ≤ (q : Int)) || decide (m.L ≤ (k : Int))) = false := by
    rw [Bool.or_eq_false_iff, decide_eq_false_iff_not, decide_eq_false_iff_not]; omega
  simp only [entryP, this]
  simp

def RowPost (m : Mch) (q : Nat) (w : World) (e : Ending) (w' : World) : Prop := e = .returned (.bool (rowP m q)) ∧ ∃ n, w' = w.drewN n

set_option maxHeartbeats 2000000 in
theorem isRow_any (b o : Nat) (m : Mch) (hwf : m.Wf) (q : Nat) (hq : q < 16) (w : World) (hm : MAt w b o m) (hL : m.L ≤ 3) :
    Calls Try.prog 103 #[.pointer (some ⟨b, o, none⟩), .int .i64 q] w (RowPost m q w) := by
  have hl := hm.l
  have hs := hm.s
  go_enter Try.func103, Try.ntmps103
  go_wp2
  go_loopw [4, 5, 9] (fun r s x wr => ∃ k : Nat, ∃ t n : Nat, k ≤ 3 ∧ x = .int .i64 k ∧ s = .int .i64 t ∧ rowUpto m q k = true ∧ (((q : Int) < m.S → (k : Int) ≤ m.L → SeenM m q k t)) ∧ r = .bool false ∧ wr = w.drewN n) (fun _ _ x _ => 3 - (intOf x).toNat)
  case atStart => exact ⟨0, 0, 0, by omega, rfl, rfl, rfl, fun _ _ => SeenM.zero _ _, rfl, rfl⟩
  case round =>
    obtain ⟨k, t, n, hk, rfl, rfl, hu, hsn, rfl, rfl⟩ := hrel
    have HU := Lib.hid hu
    have HS := Lib.hid hsn
    clear hu hsn
    by_cases hlt : k < 3
    · have e2 := hm.nn hwf hq hlt
      have e3 := hm.oo hwf hq hlt
      have b2 : 0 ≤ m.n q k ∧ m.n q k ≤ 255 := hwf.nb (q * 3 + k)
      have b3 : 0 ≤ m.o q k ∧ m.o q k ≤ 255 := hwf.ob (q * 3 + k)
      have i1 : (q : Int) < 16 := by omega
      have i2 : (0 : Int) ≤ (q : Int) := by omega
      have i3 : (k : Int) < 3 := by omega
      have i4 : (0 : Int) ≤ (k : Int) := by omega
      clear hm
      obtain ⟨N, hN⟩ : ∃ N, N = m.n q k := ⟨_, rfl⟩
      obtain ⟨O, hO⟩ : ∃ O, O = m.o q k := ⟨_, rfl⟩
      rw [← hN] at e2 b2
      rw [← hO] at e3 b3
      have HN := Lib.hid hN
      have HO := Lib.hid hO
      clear hN hO
      by_cases hact : (q : Int) < m.S ∧ (k : Int) < m.L
      · have HA := entry_act hact
        rw [← HN.out, ← HO.out] at HA
        obtain ⟨a1, a2⟩ := hact
        by_cases c1 : N < m.S
        · by_cases c2 : O < m.L
          · obtain ⟨o', ho'⟩ : ∃ o' : Nat, O = o' := ⟨O.toNat, by omega⟩
            subst ho'
            have ho3 : o' < 3 := by omega
            have hS := HS.out a1 (by omega)
            have hall := hS.all HO.out.symm ho3
            have hab := and_bit t hS.1 o' ho3
            have hob := (or_bit t hS.1 o' ho3).1
            have hstep := Lib.hid (hS.step HO.out.symm ho3)
            have HOB := Lib.hid hob
            rw [HO.out, hall, ← hab] at HA
            clear hall hab hob hS
            have HA' := Lib.hid HA
            clear HA
            by_cases c3 : (bits BinOp.and IntKind.i64 ((t : Int) / 2 ^ o') 1 == 1) = true
            · have hf : rowP m q = false := row_false hlt (by rw [HA'.out, c3]; simp)
              have HF := Lib.hid hf
              clear hf
              go_wp2
              go_quiet (fail)
              go_wp2
              go_ret
              exact ⟨ret_bool HF.out.symm, _, rfl⟩
            · have c3' : (bits BinOp.and IntKind.i64 ((t : Int) / 2 ^ o') 1 == 1) = false := by simpa using c3
              clear c3
              have hf : rowUpto m q (k + 1) = true := by rw [rowUpto_succ, HU.out, HA'.out, c3']; simp [c1, ← HO.out, c2]
              have HF := Lib.hid hf
              clear hf
              go_wp2
              go_quiet (fail)
              go_wp2
              go_roundw
              case rel => exact ⟨k + 1, t ||| 2 ^ o', _, by omega, by go_num, by rw [HOB.out], HF.out, fun _ _ => hstep.out, rfl, rfl⟩
              case measure => simp [intOf]; omega
          · have hf : rowP m q = false := row_false hlt (by rw [HA]; simp [c2])
            have HF := Lib.hid hf
            clear hf HA
            go_wp2
            go_quiet (fail)
            go_wp2
            go_ret
            exact ⟨ret_bool HF.out.symm, _, rfl⟩
        · have hf : rowP m q = false := row_false hlt (by rw [HA]; simp [c1])
          have HF := Lib.hid hf
          clear hf HA
          go_wp2
          go_quiet (fail)
          go_wp2
          go_ret
          exact ⟨ret_bool HF.out.symm, _, rfl⟩
      · have HA := entry_idle hact
        rw [← HN.out, ← HO.out] at HA
        have hno : (q : Int) < m.S → (k : Int) + 1 ≤ m.L → False := fun a c => hact ⟨a, by omega⟩
        have HNO := Lib.hid hno
        clear hno
        have HA' := Lib.hid HA
        clear HA
        by_cases c1 : N = 0
        · by_cases c2 : (O != 0) = true
          · have hf : rowP m q = false := row_false hlt (by rw [HA'.out]; simp at c2; simp [c2])
            have HF := Lib.hid hf
            clear hf
            by_cases c4 : m.S ≤ (q : Int)
            all_goals (go_wp2; go_quiet (fail); go_wp2; go_ret; exact ⟨ret_bool HF.out.symm, _, rfl⟩)
          · have c2' : (O != 0) = false := by simpa using c2
            clear c2
            have hf : rowUpto m q (k + 1) = true := by rw [rowUpto_succ, HU.out, HA'.out]; simp at c2'; simp [c1, c2']
            have HF := Lib.hid hf
            clear hf
            by_cases c4 : m.S ≤ (q : Int)
            · go_wp2
              go_quiet (fail)
              go_wp2
              go_roundw
              case rel => exact ⟨k + 1, t, _, by omega, by go_num, rfl, HF.out, fun a c => (HNO.out a (by omega)).elim, rfl, rfl⟩
              case measure => simp [intOf]; omega
            · go_wp2
              go_quiet (fail)
              go_wp2
              go_roundw
              case rel => exact ⟨k + 1, t, _, by omega, by go_num, rfl, HF.out, fun a c => (HNO.out a (by omega)).elim, rfl, rfl⟩
              case measure => simp [intOf]; omega
        · have hf : rowP m q = false := row_false hlt (by rw [HA'.out]; simp [c1])
          have HF := Lib.hid hf
          clear hf
          by_cases c4 : m.S ≤ (q : Int)
          all_goals (go_wp2; go_quiet (fail); go_wp2; go_ret; exact ⟨ret_bool HF.out.symm, _, rfl⟩)
    · have hk3 : k = 3 := by omega
      subst hk3
      have HF := Lib.hid (show rowP m q = true from HU.out)
      go_wp2
      go_ret
      exact ⟨ret_bool HF.out.symm, _, rfl⟩
end Go.Proofs.Yteagecoiijhflaa

/- IsMachine and its reference. -/
namespace Go.Proofs.Yteagecoiijhflaa
open Go.RowKit
set_option linter.unusedVariables false
set_option linter.unusedSimpArgs false

theorem MAt.alloc {w : World} {b o : Nat} {m : Mch} (h : MAt w b o m) (hb : b < w.heap.size) (ob : Obj) : MAt (w.alloc ob) b o m :=
  fun j v hj => (World.cell?_alloc_past _ _ _ hb).trans (h j v hj)
theorem MAt.setCell {w : World} {b o : Nat} {m : Mch} (h : MAt w b o m) {a : Addr} (hb : b ≠ a.block) (u : Value) : MAt (w.setCell a u) b o m :=
  fun j v hj => (World.cell?_setCell_other _ _ _ _ (by intro e; apply hb; rw [e])).trans (h j v hj)

def rowsUpto (m : Mch) (k : Nat) : Bool := (List.range k).all fun q => rowP m q
theorem rowsUpto_succ (m : Mch) (k : Nat) : rowsUpto m (k + 1) = (rowsUpto m k && rowP m k) := by
  simp [rowsUpto, List.range_succ, List.all_append]
theorem mach_false {m : Mch} {k : Nat} (hk : k < 16) (h : rowP m k = false) : machP m = false := by
  have : (List.range 16).all (fun q => rowP m q) = false := by
    rw [List.all_eq_false]
    exact ⟨k, by simpa using hk, by simp [h]⟩
  simp [machP, this]

set_option maxHeartbeats 1000000 in
theorem IsMachine_any (m : Mch) (hwf : m.Wf) (w : World) :
    Calls Try.prog 66 #[.agg m.cells.toArray] w (Ret (.bool (machP m)) w) := by
  have hm := MAt.boxed w m 29
  have hl : (w.alloc (.cells m.cells.toArray 29)).cell? ⟨w.heap.size, 0, none⟩ = some (.int .i64 m.L) := hm.l
  have hs : (w.alloc (.cells m.cells.toArray 29)).cell? ⟨w.heap.size, 1, none⟩ = some (.int .i64 m.S) := hm.s
  have hb0 : Below w.heap.size w (w.alloc (.cells m.cells.toArray 29)) := (Below.refl _ _).alloc (Nat.le_refl _) _
  have HF : Hid (inR m.L 2 3 = false → machP m = false) := fun h => by simp [machP, h]
  have HF2 : Hid (inR m.S 1 16 = false → machP m = false) := fun h => by simp [machP, h]
  by_cases c1 : inR m.L 2 3 = true
  · by_cases c2 : inR m.S 1 16 = true
    · have hL : m.L ≤ 3 := by simp [inR] at c1; omega
      have HT : Hid (rowsUpto m 16 = true → machP m = true) := fun h => by simp [machP, c1, c2]; simpa [rowsUpto] using h
      go_enter Try.func66, Try.ntmps66
      go_wp2_with (first | (go_at_call 102; refine (areLetters_any _ _).mono ?_; rintro e w' ⟨rfl, rfl⟩) | (go_at_call 59; refine (within_any _ _ _ _).mono ?_; rintro e w' ⟨rfl, rfl⟩))
      go_loopw [2, 14] (fun r x wr => ∃ k n : Nat, k ≤ 16 ∧ x = .int .i64 k ∧ rowsUpto m k = true ∧ r = .bool false ∧ wr = (w.alloc (.cells m.cells.toArray 29)).drewN n) (fun _ x _ => 16 - (intOf x).toNat)
      case atStart => exact ⟨0, 0, by omega, rfl, rfl, rfl, rfl⟩
      case round =>
        obtain ⟨k, n, hk, rfl, hu, rfl, rfl⟩ := hrel
        have HU := Lib.hid hu
        clear hu
        by_cases hlt : k < 16
        · have i1 : (k : Int) < 16 := by omega
          go_wp2_with (go_at_call 103; refine (isRow_any _ 0 m hwf k hlt _ (hm.drewN n) hL).mono ?_; rintro e w' ⟨rfl, n', rfl⟩)
          · have hr : (!rowP m k) = true := by assumption
            go_ret
            exact ⟨ret_bool (mach_false hlt (by simpa using hr)).symm, below_dN hb0 _⟩
          · have hr : (!rowP m k) = false := by assumption
            go_roundw
            case rel => exact ⟨k + 1, _, by omega, by go_num, by rw [rowsUpto_succ, HU.out]; simpa using hr, rfl, rfl⟩
            case measure => simp [intOf]; omega
        · have hk16 : k = 16 := by omega
          subst hk16
          go_wp2
          go_ret
          exact ⟨ret_bool (HT.out HU.out).symm, below_dN hb0 _⟩
    · go_enter Try.func66, Try.ntmps66
      go_wp2_with (first | (go_at_call 102; refine (areLetters_any _ _).mono ?_; rintro e w' ⟨rfl, rfl⟩) | (go_at_call 59; refine (within_any _ _ _ _).mono ?_; rintro e w' ⟨rfl, rfl⟩))
      go_ret
      exact ⟨ret_bool (HF2.out (by simpa using c2)).symm, hb0⟩
  · go_enter Try.func66, Try.ntmps66
    go_wp2_with (first | (go_at_call 102; refine (areLetters_any _ _).mono ?_; rintro e w' ⟨rfl, rfl⟩) | (go_at_call 59; refine (within_any _ _ _ _).mono ?_; rintro e w' ⟨rfl, rfl⟩))
    go_ret
    exact ⟨ret_bool (HF.out (by simpa using c1)).symm, hb0⟩
end Go.Proofs.Yteagecoiijhflaa
