/- Words of a level and their numbers: no program in sight. -/
import Derived.Test.YtmacnofkpdikiaaN
namespace Go.Proofs.Ytmacnofkpdikiaa
open Go.RowKit
set_option linter.unusedVariables false
set_option linter.unusedSimpArgs false

/-- the n digits of k, base d -/
def digs (d : Nat) : Nat → Nat → List Nat
  | 0, _ => []
  | n + 1, k => (k / d ^ n % d) :: digs d n k
theorem digs_length (d : Nat) : ∀ n k, (digs d n k).length = n
  | 0, _ => rfl
  | n + 1, k => by simp [digs, digs_length d n k]
theorem digs_lt {d : Nat} (hd : 0 < d) : ∀ n k, ∀ x ∈ digs d n k, x < d
  | 0, _, x, h => by simp [digs] at h
  | n + 1, k, x, h => by
    simp only [digs, List.mem_cons] at h
    rcases h with rfl | h
    · exact Nat.mod_lt _ hd
    · exact digs_lt hd n k x h
theorem digs_snoc (d : Nat) : ∀ n k, digs d (n + 1) k = digs d n (k / d) ++ [k % d]
  | 0, k => by simp [digs]
  | n + 1, k => by
    rw [digs, digs_snoc d n k, digs, List.cons_append]
    congr 2
    rw [Nat.div_div_eq_div_mul, Nat.pow_succ, Nat.mul_comm]
def numL (d : Nat) (l : List Nat) : Nat := l.foldl (fun a x => a * d + x) 0
theorem numL_snoc (d : Nat) (l : List Nat) (x : Nat) : numL d (l ++ [x]) = numL d l * d + x := by simp [numL]
theorem numL_digs (d : Nat) : ∀ n k, numL d (digs d n k) = k % d ^ n
  | 0, k => by simp [digs, numL, Nat.mod_one]
  | n + 1, k => by
    rw [digs_snoc, numL_snoc, numL_digs d n, Nat.pow_succ, Nat.mul_comm (d ^ n) d, Nat.mod_mul]
    rw [Nat.mul_comm]; omega
theorem numL_lt {d : Nat} : ∀ (l : List Nat), (∀ x ∈ l, x < d) → numL d l < d ^ l.length := by
  intro l
  induction hn : l.length generalizing l with
  | zero => intro _; have : l = [] := List.length_eq_zero_iff.1 hn; subst this; simp [numL]
  | succ n ih =>
    intro h
    obtain ⟨r, x, rfl⟩ : ∃ r x, l = r ++ [x] := ⟨l.dropLast, l.getLast (by intro e; simp [e] at hn), (List.dropLast_concat_getLast _).symm⟩
    have hr : r.length = n := by simpa using hn
    have h1 := ih r hr (fun y hy => h y (by simp [hy]))
    have h2 := h x (by simp)
    rw [numL_snoc, Nat.pow_succ]
    have : numL d r + 1 ≤ d ^ n := h1
    calc numL d r * d + x < numL d r * d + d := by omega
      _ = (numL d r + 1) * d := by rw [Nat.add_mul, Nat.one_mul]
      _ ≤ d ^ n * d := Nat.mul_le_mul_right d this

theorem txt_size (l : List Nat) : (txt l).size = l.length := by simp [txt, strOfNums_size]
theorem txt_data (l : List Nat) : (txt l).data.toList = l.map fun x => UInt8.ofNat (48 + x) := by
  simp only [txt, strOfNums_data, List.map_map]
  apply List.map_congr_left
  intro x _
  simp only [Function.comp, Int.toNat_natCast]
theorem lts_txt {l : List Nat} (h : ∀ x ∈ l, x ≤ 200) : lts (txt l) = l := by
  simp only [lts, txt_data, List.map_map]
  conv => rhs; rw [← List.map_id l]
  apply List.map_congr_left
  intro x hx
  have := h x hx
  simp only [Function.comp, id, UInt8.toNat_ofNat']
  omega
theorem letsP_txt {L : Int} {l : List Nat} (h : ∀ x ∈ l, (x : Int) < L) (hl : ∀ x ∈ l, x ≤ 200) : letsP L (txt l) = true := by
  simp only [letsP, letsUpto, List.all_eq_true, List.mem_range]
  intro k hk
  rw [getElem!_pos (txt l) k hk]
  have hk' : k < l.length := by rwa [txt_size] at hk
  have e : (txt l)[k] = UInt8.ofNat (48 + l[k]) := by
    have h1 : (txt l).data.toList[k]? = some (UInt8.ofNat (48 + l[k])) := by rw [txt_data]; simp [hk']
    have h2 : (txt l).data.toList[k]? = some (txt l)[k] := by
      rw [List.getElem?_eq_getElem (by simpa using hk)]; rfl
    exact Option.some.inj (h2.symm.trans h1)
  have hx := h l[k] (List.getElem_mem hk')
  have hx2 := hl l[k] (List.getElem_mem hk')
  rw [e, UInt8.toNat_ofNat']
  simp only [letB, Bool.and_eq_true, decide_eq_true_eq]
  omega

/-- the code of a machine and a level -/
def levC (m : Mch) (n : Int) : Int := if machP m then (if inR n 0 (7 - m.L) then 0 else 2) else 1
theorem levC_range (m : Mch) (n : Int) : 0 ≤ levC m n ∧ levC m n ≤ 2 := by unfold levC; split <;> (try split) <;> omega
theorem levC_zero {m : Mch} {n : Int} (h : levC m n = 0) : m.Ok ∧ ∃ j : Nat, n = j ∧ j + m.l ≤ 7 ∧ j ≤ 5 := by
  unfold levC at h
  split at h
  · rename_i h1
    split at h
    · rename_i h2
      have hok := mach_ok h1
      simp only [inR, Bool.and_eq_true, decide_eq_true_eq] at h2
      have := hok.L_eq
      have := hok.l_ge
      exact ⟨hok, n.toNat, by omega, by omega, by omega⟩
    · omega
  · omega
theorem pow_level {d j : Nat} (h2 : 2 ≤ d) (h3 : d ≤ 3) (hj : j + d ≤ 7) : d ^ j ≤ 81 := by
  have : d = 2 ∨ d = 3 := by omega
  rcases this with rfl | rfl
  · have : j = 0 ∨ j = 1 ∨ j = 2 ∨ j = 3 ∨ j = 4 ∨ j = 5 := by omega
    rcases this with rfl | rfl | rfl | rfl | rfl | rfl <;> decide
  · have : j = 0 ∨ j = 1 ∨ j = 2 ∨ j = 3 ∨ j = 4 := by omega
    rcases this with rfl | rfl | rfl | rfl | rfl <;> decide
/-- where word k of a level leads a state, and what it becomes -/
def wsec (m : Mch) (n q k : Nat) : Nat := (runL m q (digs m.l n k)).2
def wimg (m : Mch) (n q k : Nat) : List Nat := (runL m q (digs m.l n k)).1
theorem digs_ok {m : Mch} (hok : m.Ok) (n k : Nat) : ∀ x ∈ digs m.l n k, x < m.l := digs_lt (by have := hok.l_ge; omega) n k
theorem wsec_lt {m : Mch} (hok : m.Ok) (hwf : m.Wf) {q : Nat} (hq : q < m.s) (n k : Nat) : wsec m n q k < m.s := runL_state hok hwf _ q hq (digs_ok hok n k)
theorem wimg_lt {m : Mch} (hok : m.Ok) (hwf : m.Wf) {q : Nat} (hq : q < m.s) (n k : Nat) : ∀ x ∈ wimg m n q k, x < m.l := runL_letters hok hwf _ q hq (digs_ok hok n k)
theorem wimg_length (m : Mch) (n q k : Nat) : (wimg m n q k).length = n := by rw [wimg, runL_length, digs_length]
theorem word_lets {m : Mch} (hok : m.Ok) (n k : Nat) : letsP m.L (txt (digs m.l n k)) = true := by
  have h3 := hok.l_le
  exact letsP_txt (fun x hx => by have := digs_ok hok n k x hx; have := hok.L_eq; omega) (fun x hx => by have := digs_ok hok n k x hx; omega)
theorem word_lts {m : Mch} (hok : m.Ok) (n k : Nat) : lts (txt (digs m.l n k)) = digs m.l n k := by
  have h3 := hok.l_le
  exact lts_txt (fun x hx => by have := digs_ok hok n k x hx; omega)
end Go.Proofs.Ytmacnofkpdikiaa
