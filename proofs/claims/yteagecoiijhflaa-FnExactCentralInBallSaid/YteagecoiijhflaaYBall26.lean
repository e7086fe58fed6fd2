import Derived.Test.YteagecoiijhflaaYBall14
import Derived.Test.YteagecoiijhflaaYBall24
import Derived.Test.YteagecoiijhflaaYBall25
import Derived.Test.YteagecoiijhflaaYBall20
/- A word is trivial when its inverse is: the same search, mirrored. -/
namespace Go.Proofs.Yteagecoiijhflaa
open Go.RowKit
set_option linter.unusedVariables false
set_option linter.unusedSimpArgs false

theorem invW_cons (k : Int) (g : Wd) : invW (k :: g) = invW g ++ [-k] := by simp [invW]
theorem invW_append (g h : Wd) : invW (g ++ h) = invW h ++ invW g := by simp [invW]
theorem invW_invW (g : Wd) : invW (invW g) = g := by
  simp [invW, ← List.map_reverse, Function.comp_def]
theorem invW_inj {g h : Wd} (e : invW g = invW h) : g = h := by rw [← invW_invW g, e, invW_invW]
theorem stN_neg (k : Int) : stN (-k) = stN k := by simp [stN]
theorem nkey_neg {m : Mch} {k : Int} (h : k ≠ 0) : nkey m (-k) = -nkey m k := by
  unfold nkey
  rw [stN_neg]
  by_cases c : k < 0
  · rw [if_neg (by omega), if_pos c]; omega
  · rw [if_pos (by omega), if_neg c]
/-! free reduction with a stack -/
def fst' (out : Wd) (k : Int) : Wd := if out.getLast? = some (-k) then out.dropLast else out ++ [k]
def fol (s g : Wd) : Wd := g.foldl fst' s
/-- no number beside its opposite -/
def Rdc : Wd → Prop
  | [] => True
  | [_] => True
  | a :: b :: r => b ≠ -a ∧ Rdc (b :: r)
theorem Rdc.tail {a : Int} {r : Wd} (h : Rdc (a :: r)) : Rdc r := by
  cases r with
  | nil => trivial
  | cons b r => exact h.2
theorem Rdc.init {r : Wd} : ∀ {s : Wd}, Rdc (s ++ r) → Rdc s
  | [], _ => trivial
  | [_], _ => trivial
  | a :: b :: s, h => ⟨h.1, Rdc.init (s := b :: s) h.2⟩
theorem Rdc.snoc {k : Int} : ∀ {s : Wd}, Rdc s → s.getLast? ≠ some (-k) → Rdc (s ++ [k])
  | [], _, _ => trivial
  | [a], _, h => ⟨fun e => h (by simp [e]), trivial⟩
  | a :: b :: s, hs, h => ⟨hs.1, Rdc.snoc (s := b :: s) hs.2 (by simpa using h)⟩
theorem Rdc.last {k : Int} : ∀ {s : Wd}, Rdc (s ++ [k]) → s.getLast? ≠ some (-k)
  | [], _ => by simp
  | [a], h => by
    have h1 : k ≠ -a := h.1
    simp only [List.getLast?_singleton, ne_eq, Option.some.injEq]
    omega
  | a :: b :: s, h => by
    have := Rdc.last (s := b :: s) h.2
    simpa using this
theorem snoc_of {s : Wd} {k : Int} (h : s.getLast? = some k) : s = s.dropLast ++ [k] := by
  obtain ⟨l, rfl⟩ := List.getLast?_eq_some_iff.1 h
  rw [List.dropLast_concat]
theorem fst_rdc {s : Wd} (hs : Rdc s) (k : Int) : Rdc (fst' s k) := by
  unfold fst'
  split
  · rename_i h
    rw [snoc_of h] at hs
    exact hs.init
  · rename_i h
    exact hs.snoc h
theorem fol_rdc (g : Wd) : ∀ {s : Wd}, Rdc s → Rdc (fol s g) := by
  induction g with
  | nil => exact fun h => h
  | cons k g ih => exact fun h => ih (fst_rdc h k)
theorem fst_back {s : Wd} (hs : Rdc s) (k : Int) : fst' (fst' s (-k)) k = s := by
  by_cases c : s.getLast? = some (- -k)
  · have e := snoc_of c
    have h1 : fst' s (-k) = s.dropLast := if_pos c
    rw [h1]
    rw [e, Int.neg_neg] at hs
    have h2 := Rdc.last hs
    have h3 : fst' s.dropLast k = s.dropLast ++ [k] := if_neg h2
    rw [h3]
    rw [Int.neg_neg] at e
    exact e.symm
  · have h1 : fst' s (-k) = s ++ [-k] := if_neg c
    rw [h1]
    have h2 : fst' (s ++ [-k]) k = (s ++ [-k]).dropLast := if_pos (by simp)
    rw [h2, List.dropLast_concat]
theorem fol_append (s g h : Wd) : fol s (g ++ h) = fol (fol s g) h := List.foldl_append ..
theorem fol_snoc (s g : Wd) (k : Int) : fol s (g ++ [k]) = fst' (fol s g) k := by rw [fol_append]; rfl
/-- reducing first changes nothing -/
theorem fol_red' (h : Wd) : ∀ {s : Wd}, Rdc s → fol s (fol [] h.reverse) = fol s h.reverse := by
  induction h with
  | nil => exact fun _ => rfl
  | cons k h ih =>
    intro s hs
    rw [List.reverse_cons]
    generalize h.reverse = g at *
    rw [fol_snoc [] g k, fol_snoc s g k]
    by_cases c : (fol [] g).getLast? = some (-k)
    · have e := snoc_of c
      have h1 : fst' (fol [] g) k = (fol [] g).dropLast := if_pos c
      rw [h1, ← ih hs]
      have h2 : fol s (fol [] g) = fst' (fol s (fol [] g).dropLast) (-k) := by
        conv => lhs; rw [e]
        exact fol_snoc ..
      rw [h2, fst_back (fol_rdc _ hs)]
    · have h1 : fst' (fol [] g) k = fol [] g ++ [k] := if_neg c
      rw [h1, fol_snoc, ih hs]
theorem fol_red (g : Wd) {s : Wd} (hs : Rdc s) : fol s (fol [] g) = fol s g := by
  have := fol_red' g.reverse hs
  rwa [List.reverse_reverse] at this
theorem fol_stay : ∀ (g s : Wd), Rdc (s ++ g) → fol s g = s ++ g
  | [], s, _ => by simp [fol]
  | k :: g, s, h => by
    have h1 : Rdc (s ++ [k]) := by
      have : s ++ k :: g = (s ++ [k]) ++ g := by simp
      rw [this] at h
      exact h.init
    have h2 : fst' s k = s ++ [k] := if_neg h1.last
    have h3 := fol_stay g (s ++ [k]) (by simpa using h)
    show fol (fst' s k) g = _
    rw [h2, h3]; simp
theorem fol_one {k : Int} {r : Wd} (hr : Rdc r) : fol [k] r = if r.head? = some (-k) then r.tail else k :: r := by
  cases r with
  | nil => simp [fol]
  | cons a r =>
    simp only [List.head?_cons, List.tail_cons, Option.some.injEq]
    by_cases c : a = -k
    · rw [if_pos c]
      have h1 : fst' [k] a = [] := by unfold fst'; rw [if_pos (by simp [c])]; rfl
      show fol (fst' [k] a) r = _
      rw [h1]
      exact (fol_stay r [] (by simpa using hr.tail)).trans (by simp)
    · rw [if_neg c]
      exact fol_stay (a :: r) [k] ⟨c, hr⟩
theorem invW_getLast (r : Wd) : (invW r).getLast? = r.head?.map fun x => -x := by
  cases r with
  | nil => rfl
  | cons a r => rw [invW_cons]; simp
theorem fol_inv : ∀ (g : Wd), fol [] (invW g) = invW (fol [] g)
  | [] => rfl
  | k :: g => by
    rw [invW_cons, fol_snoc, fol_inv g]
    have h1 : fol [] (k :: g) = fol [k] (fol [] g) := by
      rw [fol_red g (s := [k]) trivial]
      rfl
    have hr : Rdc (fol [] g) := fol_rdc g (s := []) trivial
    rw [h1, fol_one hr]
    generalize fol [] g = r at *
    unfold fst'
    rw [invW_getLast]
    cases r with
    | nil => simp [invW]
    | cons a r =>
      simp only [List.head?_cons, Option.map_some, Option.some.injEq, List.tail_cons]
      by_cases c : a = -k
      · rw [if_pos (by omega), if_pos c, invW_cons, List.dropLast_concat]
      · rw [if_neg (by omega), if_neg c, invW_cons k]
/-- the numbers that stay, as keys -/
def keysW (m : Mch) (g : Wd) : Wd := (g.filter fun k => !trivB m (stN k)).map (nkey m)
theorem fol_keys (m : Mch) : ∀ (g s : Wd), g.foldl (nstep m) s = fol s (keysW m g)
  | [], s => rfl
  | k :: g, s => by
    rw [List.foldl_cons, fol_keys m g]
    by_cases c : trivB m (stN k) = true
    · have h1 : nstep m s k = s := if_pos c
      have h2 : keysW m (k :: g) = keysW m g := by simp [keysW, c]
      rw [h1, h2]
    · have h1 : nstep m s k = fst' s (nkey m k) := by unfold nstep fst'; rw [if_neg c]
      have h2 : keysW m (k :: g) = nkey m k :: keysW m g := by simp [keysW, c]
      rw [h1, h2]; rfl
theorem keysW_inv {m : Mch} {g : Wd} (hg : GW m g) : keysW m (invW g) = invW (keysW m g) := by
  have hr : ∀ h : Wd, invW h = (h.map fun k => -k).reverse := fun h => by simp [invW]
  rw [hr, hr]
  unfold keysW
  rw [List.filter_reverse, List.map_reverse]
  congr 1
  rw [List.filter_map, List.map_map, List.map_map]
  have e : (fun k => !trivB m (stN k)) ∘ (fun k : Int => -k) = fun k => !trivB m (stN k) := by
    funext k; simp [stN_neg]
  rw [e]
  apply List.map_congr_left
  intro k hk
  exact nkey_neg (hg k (List.mem_filter.1 hk).1).1
theorem nrm_inv {m : Mch} {g : Wd} (hg : GW m g) : nrm m (invW g) = invW (nrm m g) := by
  unfold nrm
  rw [fol_keys, fol_keys, keysW_inv hg, fol_inv]

/-! sections of inverse words -/
section
variable {m : Mch} (hok : m.Ok) (hwf : m.Wf)
include hok hwf
theorem stp_back {k : Int} (h : k ≠ 0 ∧ -(m.s : Int) ≤ k ∧ k ≤ m.s) {x : Nat} (hx : x < m.l) : stpX m (-k) (stpX m k x) = x ∧ stpK m (-k) (stpX m k x) = -stpK m k x := by
  have hs := stN_lt h
  unfold stpX stpK
  rw [stN_neg]
  by_cases c : 0 < k
  · have c2 : ¬ 0 < -k := by omega
    simp only [if_pos c, if_neg c2]
    rw [invX_of hok hwf hs hx]
    exact ⟨rfl, by omega⟩
  · have c2 : 0 < -k := by omega
    simp only [if_neg c, if_pos c2]
    rw [(invX_spec hok hwf hs hx).2]
    exact ⟨rfl, by omega⟩
theorem led_back : ∀ (g : Wd), GW m g → ∀ {x : Nat}, x < m.l → ledX m (invW g) (ledX m g x) = x ∧ ledS m (invW g) (ledX m g x) = invW (ledS m g x)
  | [], _, x, _ => ⟨rfl, rfl⟩
  | k :: g, hg, x, hx => by
    have hk := hg k (List.mem_cons_self ..)
    have h1 := led_back g (fun y hy => hg y (List.mem_cons_of_mem _ hy)) (stpX_lt hok hwf hk hx)
    have h2 := stp_back hok hwf hk hx
    rw [invW_cons, ledX_append, ledS_append]
    simp only [ledX, ledS]
    rw [h1.1, h1.2, h2.1, h2.2, invW_cons]
    exact ⟨rfl, rfl⟩
theorem leaves_inv {g : Wd} (hg : GW m g) : leavesB m (invW g) = leavesB m g := by
  have h1 : ∀ g : Wd, GW m g → leavesB m g = true → leavesB m (invW g) = true := fun g hg h => by
    unfold leavesB at h ⊢
    simp only [List.all_eq_true, List.mem_range, beq_iff_eq] at h ⊢
    intro x hx
    have := (led_back hok hwf g hg hx).1
    rw [h x hx] at this; exact this
  rw [Bool.eq_iff_iff]
  refine ⟨fun h => ?_, h1 g hg⟩
  have := h1 _ (invW_gw hg) h
  rwa [invW_invW] at this
theorem sec_inv {h : Wd} (hh : GW m h) (hl : leavesB m h = true) {x : Nat} (hx : x < m.l) : nrm m (ledS m (invW h) x) = invW (nrm m (ledS m h x)) := by
  have h1 := (led_back hok hwf h hh hx).2
  have h2 : ledX m h x = x := by
    unfold leavesB at hl
    simp only [List.all_eq_true, List.mem_range, beq_iff_eq] at hl
    exact hl x hx
  rw [h2] at h1
  rw [h1, nrm_inv (ledS_gw hok hwf hh hx)]
end
theorem mem_invW {Q : List Wd} {s : Wd} : invW s ∈ Q.map invW ↔ s ∈ Q := by
  rw [List.mem_map]
  exact ⟨fun ⟨x, hx, e⟩ => invW_inj e ▸ hx, fun h => ⟨s, h, rfl⟩⟩
theorem idxOf_invW (s : Wd) : ∀ Q : List Wd, (Q.map invW).idxOf (invW s) = Q.idxOf s
  | [] => rfl
  | a :: Q => by
    rw [List.map_cons, List.idxOf_cons, List.idxOf_cons, idxOf_invW s Q]
    by_cases c : a = s
    · subst c; simp
    · have c2 : invW a ≠ invW s := fun e => c (invW_inj e)
      have h1 : (a == s) = false := beq_eq_false_iff_ne.2 c
      have h2 : (invW a == invW s) = false := beq_eq_false_iff_ne.2 c2
      rw [h1, h2]
def mapQ {α : Type} : Option (List Wd × α) → Option (List Wd × α)
  | none => none
  | some (Q, a) => some (Q.map invW, a)
def mapE {α : Type} : Except Int (List Wd × α) → Except Int (List Wd × α)
  | .error c => .error c
  | .ok (Q, a) => .ok (Q.map invW, a)
theorem qPut_inv (Q : List Wd) (s : Wd) : qPut (Q.map invW) (invW s) = mapQ (qPut Q s) := by
  unfold qPut
  simp only [mem_invW, List.length_map, idxOf_invW]
  split
  · rfl
  · split
    · rfl
    · simp [mapQ]
section
variable {m : Mch} (hok : m.Ok) (hwf : m.Wf)
include hok hwf
theorem qRow_inv {h : Wd} (hh : GW m h) (hl : leavesB m h = true) : ∀ {x : Nat}, x ≤ m.l → ∀ (Q : List Wd), qRow m (invW h) x (Q.map invW) = mapQ (qRow m h x Q)
  | 0, _, Q => rfl
  | x + 1, hx, Q => by
    rw [qRow, qRow, qRow_inv hh hl (x := x) (by omega) Q]
    cases h1 : qRow m h x Q with
    | none => rfl
    | some p =>
      obtain ⟨Q', r⟩ := p
      simp only [mapQ]
      rw [sec_inv hok hwf hh hl (by omega), qPut_inv]
      cases h2 : qPut Q' (nrm m (ledS m h x)) with
      | none => rfl
      | some p =>
        obtain ⟨Q'', a⟩ := p
        rfl
theorem bSt_inv {g : Wd} (hg : GW m g) : ∀ i : Nat, bSt m (leavesB m) (invW g) i = mapE (bSt m (leavesB m) g i)
  | 0 => by rw [bSt, bSt, nrm_inv hg]; rfl
  | i + 1 => by
    rw [bSt, bSt, bSt_inv hg i]
    cases h1 : bSt m (leavesB m) g i with
    | error c => rfl
    | ok p =>
      obtain ⟨Q, N⟩ := p
      simp only [mapE, List.length_map]
      by_cases c : i < Q.length
      · have hQ := ((bSt_ok hok hwf (leavesB m) hg i h1).1.toQOk.at c).1
        have e : (Q.map invW)[i]?.getD [] = invW (Q[i]?.getD []) := by
          rw [List.getElem?_map, List.getElem?_eq_getElem c]; rfl
        rw [if_pos c, if_pos c, e, leaves_inv hok hwf hQ]
        by_cases hl : leavesB m (Q[i]?.getD []) = true
        · rw [if_pos hl, if_pos hl, qRow_inv hok hwf hQ hl (Nat.le_refl _)]
          cases h2 : qRow m (Q[i]?.getD []) m.l Q with
          | none => rfl
          | some p =>
            obtain ⟨Q', r⟩ := p
            rfl
        · rw [if_neg hl, if_neg hl]
      · rw [if_neg c, if_neg c]
theorem trvR_inv {g : Wd} (hg : GW m g) : trvR m (invW g) = trvR m g := by
  unfold trvR secR
  rw [bSt_inv hok hwf hg]
  cases bSt m (leavesB m) g 200 with
  | error c => rfl
  | ok p => rfl
end
end Go.Proofs.Yteagecoiijhflaa

/- The central words of a ball: plain, and of the program. -/
namespace Go.Proofs.Yteagecoiijhflaa
open Go.RowKit
set_option linter.unusedVariables false
set_option linter.unusedSimpArgs false

/-- what the question at the generator s answers -/
def cenQ (m : Mch) (w : Wd) (s : Int) : Bool × Int := trvR m (w ++ invW ([-s] ++ w ++ [s]))
theorem trvR_or (m : Mch) (g : Wd) : trvR m g = (true, 0) ∨ trvR m g = (false, 0) ∨ trvR m g = (false, 3) := by
  unfold trvR trvOf
  cases secR m (leavesB m) g with
  | ok p => exact .inl rfl
  | error c => by_cases h : c = 5 <;> simp [h]
/-- the answer after k generators -/
def cenK (m : Mch) (gs : List Int) (w : Wd) : Nat → Bool × Int
  | 0 => (true, 0)
  | k + 1 => if cenK m gs w k = (true, 0) then cenQ m w (gs[k]?.getD 0) else cenK m gs w k
theorem cenK_stay {m : Mch} {gs : List Int} {w : Wd} {k : Nat} {R : Bool × Int} (h : cenK m gs w k = R) (hR : R ≠ (true, 0)) : ∀ j, cenK m gs w (k + j) = R
  | 0 => h
  | j + 1 => by
    rw [← Nat.add_assoc, cenK, cenK_stay h hR j, if_neg hR]
theorem cenK_end {m : Mch} {gs : List Int} {w : Wd} {k : Nat} {R : Bool × Int} (h : cenK m gs w k = R) (hR : R ≠ (true, 0)) (hk : k ≤ gs.length) : cenK m gs w gs.length = R := by
  have := cenK_stay h hR (gs.length - k)
  rwa [show k + (gs.length - k) = gs.length by omega] at this
theorem cenK_next {m : Mch} {gs : List Int} {w : Wd} {k : Nat} (h : cenK m gs w k = (true, 0)) : cenK m gs w (k + 1) = cenQ m w (gs[k]?.getD 0) := by rw [cenK, if_pos h]
theorem cenK_or (m : Mch) (gs : List Int) (w : Wd) : ∀ k, cenK m gs w k = (true, 0) ∨ cenK m gs w k = (false, 0) ∨ cenK m gs w k = (false, 3)
  | 0 => .inl rfl
  | k + 1 => by
    rw [cenK]
    split
    · exact trvR_or m _
    · exact cenK_or m gs w k
/-- the central ones of the first i words -/
def cenU (m : Mch) (gs : List Int) (ws : List Wd) : Nat → Except Int (List Wd)
  | 0 => .ok []
  | i + 1 => match cenU m gs ws i with
    | .error c => .error c
    | .ok l => if (cenK m gs (ws[i]?.getD []) gs.length).2 ≠ 0 then .error (cenK m gs (ws[i]?.getD []) gs.length).2 else .ok (if (cenK m gs (ws[i]?.getD []) gs.length).1 = true then l ++ [ws[i]?.getD []] else l)
theorem cenU_stay {m : Mch} {gs : List Int} {ws : List Wd} {i : Nat} {c : Int} (h : cenU m gs ws i = .error c) : ∀ j, cenU m gs ws (i + j) = .error c
  | 0 => h
  | j + 1 => by rw [← Nat.add_assoc, cenU, cenU_stay h j]
theorem cenU_end {m : Mch} {gs : List Int} {ws : List Wd} {i : Nat} {c : Int} (h : cenU m gs ws i = .error c) (hi : i ≤ ws.length) : cenU m gs ws ws.length = .error c := by
  have := cenU_stay h (ws.length - i)
  rwa [show i + (ws.length - i) = ws.length by omega] at this
theorem cenU_bad {m : Mch} {gs : List Int} {ws : List Wd} {i : Nat} {l : List Wd} {b : Bool} {c : Int} (h : cenU m gs ws i = .ok l) (h2 : cenK m gs (ws[i]?.getD []) gs.length = (b, c)) (hc : c ≠ 0) : cenU m gs ws (i + 1) = .error c := by
  rw [cenU, h]; simp only; rw [h2]; rw [if_pos hc]
theorem cenU_yes {m : Mch} {gs : List Int} {ws : List Wd} {i : Nat} {l : List Wd} (h : cenU m gs ws i = .ok l) (h2 : cenK m gs (ws[i]?.getD []) gs.length = (true, 0)) : cenU m gs ws (i + 1) = .ok (l ++ [ws[i]?.getD []]) := by
  rw [cenU, h]; simp only; rw [h2]; simp
theorem cenU_no {m : Mch} {gs : List Int} {ws : List Wd} {i : Nat} {l : List Wd} (h : cenU m gs ws i = .ok l) (h2 : cenK m gs (ws[i]?.getD []) gs.length = (false, 0)) : cenU m gs ws (i + 1) = .ok l := by
  rw [cenU, h]; simp only; rw [h2]; simp
theorem cenU_sub {m : Mch} {gs : List Int} {ws : List Wd} : ∀ (i : Nat) {l : List Wd}, i ≤ ws.length → cenU m gs ws i = .ok l → l.Sublist (ws.take i)
  | 0, l, _, h => by cases h; simp
  | i + 1, l, hi, h => by
    rw [cenU] at h
    cases h1 : cenU m gs ws i with
    | error c => rw [h1] at h; cases h
    | ok l1 =>
      rw [h1] at h
      simp only at h
      have ih := cenU_sub i (by omega) h1
      have e : ws.take (i + 1) = ws.take i ++ [ws[i]?.getD []] := by
        rw [List.take_succ_eq_append_getElem (by omega), List.getElem?_eq_getElem (by omega)]; rfl
      rw [e]
      split at h
      · cases h
      · injection h with h
        subst h
        split
        · exact ih.append (List.Sublist.refl _)
        · exact ih.trans (List.sublist_append_left _ _)
def cenX (m : Mch) (r : Int) : List Wd × Int := match ballI m r with
  | .error c => ([], c)
  | .ok y => match cenU m (genI m).1 (y.1.map (·.1)) (y.1.map (·.1)).length with
    | .error c => ([], c)
    | .ok l => (l, 0)
theorem cenX_err {m : Mch} {r c : Int} (h : ballI m r = .error c) : cenX m r = ([], c) := by unfold cenX; rw [h]
theorem cenX_bad {m : Mch} {r c : Int} {s : Bs} {st : List Nat} (h : ballI m r = .ok (s, st)) (h2 : cenU m (genI m).1 (s.map (·.1)) (s.map (·.1)).length = .error c) : cenX m r = ([], c) := by unfold cenX; rw [h]; simp only; rw [h2]
theorem cenX_ok {m : Mch} {r : Int} {s : Bs} {st : List Nat} {l : List Wd} (h : ballI m r = .ok (s, st)) (h2 : cenU m (genI m).1 (s.map (·.1)) (s.map (·.1)).length = .ok l) : cenX m r = (l, 0) := by unfold cenX; rw [h]; simp only; rw [h2]
set_option maxRecDepth 100000 in
set_option maxHeartbeats 400000 in
theorem isCentral_any (m : Mch) (hwf : m.Wf) (hok : m.Ok) (gs : List Int) (hgs : GW m gs) (h8 : gs.length ≤ 32) (G b : Nat) (ga : Option Addr) (gc : Nat) (a : Option Addr) (g : Wd) (c : Nat) (hg : GW m g) (hl : g.length ≤ 100) (B : Nat) (w : World)
    (hG : GrpR w G m) (hI : IntsAt w ga gs) (hO : OwnI w B (.slice a g.length c) g) (hb0 : w.cell? ⟨b, 0, none⟩ = some (.pointer (some ⟨G, 0, none⟩))) (hb1 : w.cell? ⟨b, 1, none⟩ = some (.slice ga gs.length gc)) :
    Calls Try.prog 83 #[.pointer (some ⟨b, 0, none⟩), .slice a g.length c] w (Ret (.tuple #[.bool (cenK m gs g gs.length).1, .int .i64 (cenK m gs g gs.length).2]) w) := by
  have HMX := Lib.hid (show Try.prog.follows .mixedOrders = true by kernel_rfl)
  have HG := Lib.hid hG
  have HI := Lib.hid hI
  have HO := Lib.hid hO
  have HC : Hid (∀ W, Below w.heap.size w W → W.cell? ⟨b, 0, none⟩ = some (.pointer (some ⟨G, 0, none⟩))) := fun W hW => (hW.cell (World.block_lt_of_cell? _ _ hb0)).trans hb0
  have HGS := Lib.hid hgs
  have HGW := Lib.hid hg
  have h16 := hok.s_le
  have HOK := Lib.hid hok
  clear hG hI hO hb0 hgs hg hok
  go_enter Try.func83, Try.ntmps83
  go_wp2_with fail
  clear hb1
  have HB0 : Hid (Below w.heap.size w w) := Below.refl _ _
  go_loopw [15] (fun iv wr => ∃ k : Nat, k ≤ gs.length ∧ iv = .int .i64 (k : Int) ∧ Hid (cenK m gs g k = (true, 0)) ∧ Below w.heap.size w wr) (fun i _ => gs.length - (intOf i).toNat)
  case atStart => exact ⟨0, Nat.zero_le _, rfl, rfl, HB0.out⟩
  case round =>
    clear HB0
    obtain ⟨k, hk, rfl, HK, hb⟩ := hrel
    have ek : IntKind.i64.wrap ((k : Int) + 1) = (k : Int) + 1 := IntWalk.i64_in _ (by omega)
    by_cases hlt : k < gs.length
    · obtain ⟨bb, off, rfl, c1⟩ := HI.out k hlt
      have c1 := (hb.cell (World.block_lt_of_cell? _ _ c1)).trans c1
      have k1 : (0 : Int) ≤ (k : Int) := by omega
      have k2 : (k : Int) < (gs.length : Int) := by omega
      have hkm : gs[k]?.getD 0 ∈ gs := by rw [List.getElem?_eq_getElem hlt, Option.getD_some]; exact List.getElem_mem hlt
      have hb3 := HGS.out _ hkm
      have HN := Lib.hid (cenK_next HK.out)
      have HE : Hid (∀ R, cenQ m g (gs[k]?.getD 0) = R → R ≠ (true, 0) → cenK m gs g gs.length = R) := fun R h hR => cenK_end (cenK_next HK.out |>.trans h) hR hlt
      have HQ := Lib.hid (trvR_or m (g ++ invW ([-(gs[k]?.getD 0)] ++ g ++ [gs[k]?.getD 0])))
      change Hid (cenQ m g (gs[k]?.getD 0) = _ ∨ cenQ m g (gs[k]?.getD 0) = _ ∨ cenQ m g (gs[k]?.getD 0) = _) at HQ
      have HM0 : Hid (Mm w.heap.size w wr.drew [] []) := (Mm.start w).call hb |>.drew
      have HGW2 : Hid (GW m ([-(gs[k]?.getD 0)] ++ g ++ [gs[k]?.getD 0])) := gw_app (gw_app (fun p hp => by rw [List.mem_singleton.1 hp]; omega) HGW.out) (fun p hp => by rw [List.mem_singleton.1 hp]; omega)
      have HAE : Hid (∀ W B2 v2, Below w.heap.size w W → OwnI W B2 v2 ([-(gs[k]?.getD 0)] ++ g ++ [gs[k]?.getD 0]) → Calls Try.prog 108 #[.pointer (some ⟨G, 0, none⟩), .slice a g.length c, v2] W (Ret (.tuple #[.bool (cenQ m g (gs[k]?.getD 0)).1, .int .i64 (cenQ m g (gs[k]?.getD 0)).2]) W)) := fun W B2 v2 hW h2 => areEqual_any G m hwf HOK.out _ v2 g _ B B2 HGW.out HGW2.out (by simp) (by simp; omega) W (HG.out.keep hW) (HO.out.below hW) h2
      have en : IntKind.i64.wrap (-(gs[k]?.getD 0)) = -(gs[k]?.getD 0) := IntWalk.i64_in _ (by omega)
      clear hkm HK HGW2
      generalize gs[k]?.getD 0 = y at *
      clear hb3 hb
      go_wp2_with fail
      clear c1
      have HCO : Hid (∀ W b7 b10, OwnI W w.heap.size (.slice (some ⟨b7, 0, none⟩) 1 1) [-y] → OwnI W w.heap.size (.slice (some ⟨b10, 0, none⟩) 1 1) [y] → Below w.heap.size w W → Calls Try.prog 120 #[.slice (some ⟨W.heap.size, 0, none⟩) 3 3] (W.alloc (.cells #[.slice (some ⟨b7, 0, none⟩) 1 1, .slice a g.length c, .slice (some ⟨b10, 0, none⟩) 1 1] 26)) fun e w' => ∃ v', e = .returned v' ∧ Below (W.alloc (.cells #[.slice (some ⟨b7, 0, none⟩) 1 1, .slice a g.length c, .slice (some ⟨b10, 0, none⟩) 1 1] 26)).heap.size (W.alloc (.cells #[.slice (some ⟨b7, 0, none⟩) 1 1, .slice a g.length c, .slice (some ⟨b10, 0, none⟩) 1 1] 26)) w' ∧ OwnI w' (W.alloc (.cells #[.slice (some ⟨b7, 0, none⟩) 1 1, .slice a g.length c, .slice (some ⟨b10, 0, none⟩) 1 1] 26)).heap.size v' ([-y] ++ g ++ [y])) := fun W b7 b10 h7 h10 hW => by
        have h := concat_any _ [[-y], g, [y]] (by simp) (by simp [sumLen]; omega) _ (slO_three (w := W) _ _ _ _ _ _ _ _ _ h7 (HO.out.below hW) h10)
        have e : [[-y], g, [y]].flatten = [-y] ++ g ++ [y] := by simp
        rw [e] at h
        exact h
      refine region_A (fun W => W.cell? ⟨b, 0, none⟩ = some (.pointer (some ⟨G, 0, none⟩))) [] 19 (fun W => Mm w.heap.size w W [] []) rfl HMX.out HM0.out (fun W h => HC.out W h.below) (fun W hM hU => ?_)
      clear HM0
      (refine AnyS.take (i := 0) rfl (by kernel_rfl) (by kernel_rfl) (by kernel_rfl) (by rfl) (fun _ _ _ h => h) (by rfl) (by intro w; go_simp; with_reducible rfl) hU (fun hU => ?_); (try simp only [Act.put, List.setIfInBounds_toArray, List.set_cons_zero, List.set_cons_succ]); refine AnyS.take (i := 1) rfl (by kernel_rfl) (by kernel_rfl) (by kernel_rfl) (by rfl) (fun _ _ _ h => h) (by rfl) (by intro w; go_simp; with_reducible rfl) hU (fun hU => ?_); (try simp only [Act.put, List.setIfInBounds_toArray, List.set_cons_zero, List.set_cons_succ]); refine AnyS.take (i := 2) rfl (by kernel_rfl) (by kernel_rfl) (by kernel_rfl) (by rfl) (fun _ _ _ h => h) (by rfl) (by intro w; go_simp; with_reducible rfl) hU (fun hU => ?_); (try simp only [Act.put, List.setIfInBounds_toArray, List.set_cons_zero, List.set_cons_succ]))
      (refine AnyS.takeS (i := 3) rfl (by kernel_rfl) (by kernel_rfl) (by kernel_rfl) (by rfl) (by kernel_rfl) (by kernel_rfl) (fun _ _ _ h => h) (by rfl) (by intro W hSw; go_simp; with_reducible rfl) hU (fun hU => ?_); (try simp only [Act.put, List.setIfInBounds_toArray, List.set_cons_zero, List.set_cons_succ]))
      (refine AnyS.take (i := 4) rfl (by kernel_rfl) (by kernel_rfl) (by kernel_rfl) (by rfl) (fun _ _ _ h => h) (by rfl) (by intro w; go_simp; with_reducible rfl) hU (fun hU => ?_); (try simp only [Act.put, List.setIfInBounds_toArray, List.set_cons_zero, List.set_cons_succ]); refine AnyS.take (i := 5) rfl (by kernel_rfl) (by kernel_rfl) (by kernel_rfl) (by rfl) (fun _ _ _ h => h) (by rfl) (by intro w; go_simp; with_reducible rfl) hU (fun hU => ?_); (try simp only [Act.put, List.setIfInBounds_toArray, List.set_cons_zero, List.set_cons_succ]); refine AnyS.take (i := 6) rfl (by kernel_rfl) (by kernel_rfl) (by kernel_rfl) (by rfl) (fun _ _ _ h => h) (by rfl) (by intro w; go_simp; with_reducible rfl) hU (fun hU => ?_); (try simp only [Act.put, List.setIfInBounds_toArray, List.set_cons_zero, List.set_cons_succ]); refine AnyS.take (i := 8) rfl (by kernel_rfl) (by kernel_rfl) (by kernel_rfl) (by rfl) (fun _ _ _ h => h) (by rfl) (by intro w; go_simp; with_reducible rfl) hU (fun hU => ?_); (try simp only [Act.put, List.setIfInBounds_toArray, List.set_cons_zero, List.set_cons_succ]); refine AnyS.take (i := 9) rfl (by kernel_rfl) (by kernel_rfl) (by kernel_rfl) (by rfl) (fun _ _ _ h => h) (by rfl) (by intro w; go_simp; with_reducible rfl) hU (fun hU => ?_); (try simp only [Act.put, List.setIfInBounds_toArray, List.set_cons_zero, List.set_cons_succ]))
      refine AnyS.branch (rs := [7, 10]) (by kernel_rfl) (by simp) (AllS.cons rfl (fun K hK => ?oA) (AllS.cons rfl (fun K hK => ?oB) AllS.nil))
      case' oA =>
        have hM1 := hM.newOwn #[.int .i64 (-y)] 2 1 rfl (by omega)
        go_simp
        refine hK.out _ _ (.inl (HC.out _ hM1.below)) (fun hU => ?_)
        clear hK K hM
        (try simp only [Act.put, List.setIfInBounds_toArray, List.set_cons_zero, List.set_cons_succ])
        generalize W.alloc (.cells #[.int .i64 (-y)] 2) = W1 at *
        generalize W.heap.size = b7 at *
        (refine AnyS.branch (rs := [10]) (by kernel_rfl) (List.cons_ne_nil _ _) ?_; refine AllS.cons rfl ?_ AllS.nil; intro K hK)
        have hM2 := hM1.newOwn #[.int .i64 y] 2 1 rfl (by omega)
        go_simp
        refine hK.out _ _ (.inl (HC.out _ hM2.below)) (fun hU => ?_)
        clear hK K hM1
        (try simp only [Act.put, List.setIfInBounds_toArray, List.set_cons_zero, List.set_cons_succ])
        generalize W1.alloc (.cells #[.int .i64 y] 2) = W2 at *
        generalize W1.heap.size = b10 at *
        have hO7 : OwnI W2 w.heap.size (.slice (some ⟨b7, 0, none⟩) 1 1) [-y] := OwnI.of_row (hM2.own _ (mem_of_get (i := 1) rfl))
        have hO10 : OwnI W2 w.heap.size (.slice (some ⟨b10, 0, none⟩) 1 1) [y] := OwnI.of_row (hM2.own _ (mem_of_get (i := 0) rfl))
      case' oB =>
        have hM1 := hM.newOwn #[.int .i64 y] 2 1 rfl (by omega)
        go_simp
        refine hK.out _ _ (.inl (HC.out _ hM1.below)) (fun hU => ?_)
        clear hK K hM
        (try simp only [Act.put, List.setIfInBounds_toArray, List.set_cons_zero, List.set_cons_succ])
        generalize W.alloc (.cells #[.int .i64 y] 2) = W1 at *
        generalize W.heap.size = b10 at *
        (refine AnyS.branch (rs := [7]) (by kernel_rfl) (List.cons_ne_nil _ _) ?_; refine AllS.cons rfl ?_ AllS.nil; intro K hK)
        have hM2 := hM1.newOwn #[.int .i64 (-y)] 2 1 rfl (by omega)
        go_simp
        refine hK.out _ _ (.inl (HC.out _ hM2.below)) (fun hU => ?_)
        clear hK K hM1
        (try simp only [Act.put, List.setIfInBounds_toArray, List.set_cons_zero, List.set_cons_succ])
        generalize W1.alloc (.cells #[.int .i64 (-y)] 2) = W2 at *
        generalize W1.heap.size = b7 at *
        have hO7 : OwnI W2 w.heap.size (.slice (some ⟨b7, 0, none⟩) 1 1) [-y] := OwnI.of_row (hM2.own _ (mem_of_get (i := 0) rfl))
        have hO10 : OwnI W2 w.heap.size (.slice (some ⟨b10, 0, none⟩) 1 1) [y] := OwnI.of_row (hM2.own _ (mem_of_get (i := 1) rfl))
      all_goals
        have hB2 := hM2.below
        have hc := HCO.out W2 b7 b10 hO7 hO10 hB2
        clear hM2 hO7 hO10
        (refine AnyS.branch (rs := [11]) (by kernel_rfl) (List.cons_ne_nil _ _) ?_; refine AllS.cons rfl ?_ AllS.nil; intro K hK)
        go_simp
        have hB3 := hB2.alloc hB2.size (.cells #[.slice (some ⟨b7, 0, none⟩) 1 1, .slice a g.length c, .slice (some ⟨b10, 0, none⟩) 1 1] 26)
        refine hK.out _ _ (.inl (HC.out _ hB3)) (fun hU => ?_)
        clear hK K hB2
        (try simp only [Act.put, List.setIfInBounds_toArray, List.set_cons_zero, List.set_cons_succ])
        (refine AnyS.branch (rs := [12]) (by kernel_rfl) (List.cons_ne_nil _ _) ?_; refine AllS.cons rfl ?_ AllS.nil; intro K hK)
        go_simp
        refine hc.mono ?_
        rintro e w4 ⟨v4, rfl, hb4, hO4⟩
        have hB4 := hB3.trans (hb4.mono hB3.size)
        refine hK.out _ _ (.inl (HC.out _ hB4)) (fun hU => ?_)
        clear hK K hc hB3 hb4
        (try simp only [Act.put, List.setIfInBounds_toArray, List.set_cons_zero, List.set_cons_succ])
        have ha := HAE.out w4 _ v4 hB4 hO4
        (refine AnyS.branch (rs := [13]) (by kernel_rfl) (List.cons_ne_nil _ _) ?_; refine AllS.cons rfl ?_ AllS.nil; intro K hK)
        go_simp
        refine ha.mono ?_
        rintro e w5 ⟨rfl, hb5⟩
        have hB5 := hB4.trans (hb5.mono hB4.size)
        refine hK.out _ _ (.inl (HC.out _ hB5)) (fun hU => ?_)
        clear hK K ha hB4 hb5 hO4
        (try simp only [Act.put, List.setIfInBounds_toArray, List.set_cons_zero, List.set_cons_succ])
        generalize cenQ m g y = R1 at *
        (refine AnyS.take (i := 14) rfl (by kernel_rfl) (by kernel_rfl) (by kernel_rfl) (by rfl) (fun _ _ _ h => h) (by rfl) (by intro w; go_simp; with_reducible rfl) hU (fun hU => ?_); (try simp only [Act.put, List.setIfInBounds_toArray, List.set_cons_zero, List.set_cons_succ]); refine AnyS.take (i := 15) rfl (by kernel_rfl) (by kernel_rfl) (by kernel_rfl) (by rfl) (fun _ _ _ h => h) (by rfl) (by intro w; go_simp; with_reducible rfl) hU (fun hU => ?_); (try simp only [Act.put, List.setIfInBounds_toArray, List.set_cons_zero, List.set_cons_succ]); refine AnyS.take (i := 16) rfl (by kernel_rfl) (by kernel_rfl) (by kernel_rfl) (by rfl) (fun _ _ _ h => h) (by rfl) (by intro w; go_simp; with_reducible rfl) hU (fun hU => ?_); (try simp only [Act.put, List.setIfInBounds_toArray, List.set_cons_zero, List.set_cons_succ]); refine AnyS.take (i := 17) rfl (by kernel_rfl) (by kernel_rfl) (by kernel_rfl) (by rfl) (fun _ _ _ h => h) (by rfl) (by intro w; go_simp; with_reducible rfl) hU (fun hU => ?_); (try simp only [Act.put, List.setIfInBounds_toArray, List.set_cons_zero, List.set_cons_succ]); refine AnyS.take (i := 18) rfl (by kernel_rfl) (by kernel_rfl) (by kernel_rfl) (by rfl) (fun _ _ _ h => h) (by rfl) (by intro w; go_simp; with_reducible rfl) hU (fun hU => ?_); (try simp only [Act.put, List.setIfInBounds_toArray, List.set_cons_zero, List.set_cons_succ]))
        refine AnyS.done (by kernel_rfl) ?_ _
        clear hU
        have HB5 := Lib.hid hB5
        rcases HQ.out with rfl | rfl | rfl
        · have HK2 : Hid (cenK m gs g (k + 1) = (true, 0)) := HN.out
          clear hB5 HQ HE HN
          go_wp2_with fail
          go_roundw
          case rel => exact ⟨k + 1, by omega, by go_num, HK2.out, HB5.out⟩
          case measure => simp [intOf] <;> omega
        · have HK2 := Lib.hid (HE.out _ rfl (by decide))
          clear hB5 HQ HE HN
          go_wp2_with fail
          go_ret2
          rw [HK2.out]
          exact ⟨rfl, HB5.out⟩
        · have HK2 := Lib.hid (HE.out _ rfl (by decide))
          clear hB5 HQ HE HN
          go_wp2_with fail
          go_ret2
          rw [HK2.out]
          exact ⟨rfl, HB5.out⟩
    · have hk' : k = gs.length := by omega
      subst hk'
      have i2 : ¬ ((gs.length : Int) < (gs.length : Int)) := by omega
      have HB := Lib.hid hb
      clear hb
      go_wp2_with fail
      go_ret2
      rw [HK.out]
      exact ⟨rfl, HB.out⟩

theorem Mg.wordAt1 {B : Nat} {w0 w : World} {L : List (Nat × List Value × TypeId)} {g : Gr} {s : Bs} {vw vm vs : Value} {rw : List Value} {cs : List Nat} {GR : List Gr} (h : Mg B w0 w L (g :: (ballG s vw rw vm vs cs ++ GR))) (hl : rw.length = s.length) {i : Nat} (hi : i < s.length) :
    OwnI w B (rw[i]?.getD undef) ((s[i]?.map (·.1)).getD []) := h.row (i + 4) (ball_row (vw := vw) (vm := vm) (vs := vs) (cs := cs) hl hi)
theorem ballI_case {m : Mch} {r : Int} {s : Bs} {st : List Nat} (h : ballI m r = .ok (s, st)) : machP m = true := by
  unfold ballI at h
  by_cases h1 : machP m = false
  · rw [if_pos h1] at h; cases h
  · simpa using h1
theorem ballI_bs {m : Mch} {r : Int} {s : Bs} {st : List Nat} (h : ballI m r = .ok (s, st)) : BsOk m 5 s := by
  unfold ballI at h
  by_cases h1 : machP m = false
  · rw [if_pos h1] at h; cases h
  · rw [if_neg h1] at h
    by_cases h2 : inR r 0 5 = false
    · rw [if_pos h2] at h; cases h
    · rw [if_neg h2] at h
      by_cases h3 : (genI m).2 ≠ 0
      · rw [if_pos h3] at h; cases h
      · rw [if_neg h3] at h
        have hl : r.toNat ≤ 5 := by
          simp only [Bool.not_eq_false] at h2
          simp only [inR, Bool.and_eq_true, decide_eq_true_eq] at h2
          omega
        exact (ballR_ok (genI_gw m) _ h).1.less hl
set_option maxRecDepth 100000 in
set_option maxHeartbeats 400000 in
theorem implCentralInBall_any (m : Mch) (hwf : m.Wf) (r : Int) (w : World) :
    Calls Try.prog 52 #[.agg m.cells.toArray, .int .i64 r] w (RetII (cenX m r).1 (cenX m r).2 w) := by
  have hM0 := (Mg.start w).alloc m.cells.toArray 29
  have hm := hM0.mach 0 rfl
  have HBO := Lib.hid (ballOf_any m hwf r (w.alloc (.cells m.cells.toArray 29)))
  have HB0 := Lib.hid hM0.below
  clear hM0
  go_enter Try.func52, Try.ntmps52
  go_wp2_with ((with_reducible refine ld_mach ?_ (.tmp 2) ?_ (w.heap.size) (0) ?_ m hm hwf ?_); exact rfl; exact rfl; exact rfl)
  refine HBO.out.mono ?_
  intro e w1 hR
  clear HBO hm
  cases hb : ballI m r with
  | error c =>
    rw [hb] at hR
    obtain ⟨hc, hb1, p, rfl⟩ := hR
    have HD := Lib.hid (cenX_err hb)
    have HB1 := Lib.hid (HB0.out.trans (hb1.mono HB0.out.size))
    have j1 : (c != 0) = true := by simpa using hc
    have HN : Hid (OwnII w1 w.heap.size (.slice none 0 0) []) := OwnII.nil _ _ HB1.out.size
    clear hb hb1 hc
    go_wp2_with fail
    go_ret2
    rw [HD.out]
    exact ⟨_, rfl, HB1.out, HN.out⟩
  | ok y =>
    obtain ⟨s, st⟩ := y
    rw [hb] at hR
    obtain ⟨b, rfl, hBA⟩ := hR
    have hmp := ballI_case hb
    have hbs := ballI_bs hb
    have HMP := Lib.hid hmp
    have HBS := Lib.hid hbs
    have hs2 := hbs.many
    have hok := mach_ok hmp
    have hgl := genI_len m hok.s_le
    have HOK := Lib.hid hok
    have HDE : Hid (∀ c, cenU m (genI m).1 (s.map (·.1)) (s.map (·.1)).length = .error c → cenX m r = ([], c)) := fun c h => cenX_bad hb h
    have HDO : Hid (∀ l, cenU m (genI m).1 (s.map (·.1)) (s.map (·.1)).length = .ok l → cenX m r = (l, 0)) := fun l h => cenX_ok hb h
    have hBA2 := hBA.since HB0.out
    obtain ⟨w0, G, ga, gc, vw, vm, vs, rw, k1, k2, k3, k4, k5⟩ := hBA2
    have HK1 := Lib.hid k1
    have HK2 := Lib.hid k2
    have HK3 := Lib.hid k3
    have HK4 := Lib.hid k4
    have HGW := Lib.hid (genI_gw m)
    have HM : Hid (∀ W, Below w1.heap.size w1 W → Mg w0.heap.size w0 W [(b, bcell G ga (genI m).1.length gc vw vm (lastN st) vs, 97)] (ballG s vw rw vm vs (cntB st s.length) ++ [])) := fun W hW => k5.call hW
    have HB1 := Lib.hid (k1.trans (k5.below.mono k1.size))
    have c2 := (k5.at 0 rfl).cell' (i := 2) rfl
    obtain ⟨aw, cw, rfl⟩ := k5.sl 0 (v := vw) rfl
    have HBND : Hid (∀ (x : Nat × List Value × TypeId), True) := fun _ => trivial
    have HMAP : Hid ((s.map (·.1)).length = s.length) := List.length_map _
    obtain ⟨i0, hi0, hz0, hz1, hz2⟩ := info_parts Try.info26
    generalize hgs : (genI m).1 = gs at *
    have HIC : Hid (∀ W GR a c g, Mg w0.heap.size w0 W [(b, bcell G ga gs.length gc (.slice aw s.length cw) vm (lastN st) vs, 97)] GR → GW m g → g.length ≤ 100 → OwnI W w0.heap.size (.slice a g.length c) g → Calls Try.prog 83 #[.pointer (some ⟨b, 0, none⟩), .slice a g.length c] W (Ret (.tuple #[.bool (cenK m gs g gs.length).1, .int .i64 (cenK m gs g gs.length).2]) W)) := fun W GR a c g hM h1 h2 h4 =>
      isCentral_any m hwf HOK.out gs HGW.out hgl G b ga gc a g c h1 h2 _ W (HK2.out.keep hM.below) (HK3.out.keep hM.below) h4 ((hM.at 0 rfl).cell' (i := 0) rfl) ((hM.at 0 rfl).cell' (i := 1) rfl)
    have HM0 : Hid (Mg w0.heap.size w0 w1 [(b, bcell G ga gs.length gc (.slice aw s.length cw) vm (lastN st) vs, 97)] (⟨.slice none 0 0, 26, 1, ([] : List Wd).length, []⟩ :: (ballG s (.slice aw s.length cw) rw vm vs (cntB st s.length) ++ []))) := k5.addNil _ _
    clear hBA k1 k2 k3 k4 k5 hb hbs hmp hok
    go_wp2_with fail
    clear c2
    go_loopw [8, 27] (fun v8 iv wr => ∃ (i : Nat) (l : List Wd) (rl : List Value), i ≤ s.length ∧ iv = .int .i64 (i : Int) ∧ Hid (cenU m gs (s.map (·.1)) i = .ok l) ∧ Hid (rl.length = l.length ∧ l.length ≤ i ∧ (rowG rl l).Sublist (rowG (rw.take i) ((s.map (·.1)).take i))) ∧ Mg w0.heap.size w0 wr [(b, bcell G ga gs.length gc (.slice aw s.length cw) vm (lastN st) vs, 97)] (⟨v8, 26, 1, l.length, rl⟩ :: (ballG s (.slice aw s.length cw) rw vm vs (cntB st s.length) ++ []))) (fun _ i _ => s.length - (intOf i).toNat)
    case atStart => exact ⟨0, [], [], Nat.zero_le _, rfl, rfl, ⟨rfl, Nat.le_refl _, List.nil_sublist _⟩, HM0.out⟩
    case round =>
      clear HM0
      obtain ⟨i, l, rl, hi, rfl, HU, HS, hM⟩ := hrel
      have ei : IntKind.i64.wrap ((i : Int) + 1) = (i : Int) + 1 := IntWalk.i64_in _ (by omega)
      by_cases hlt : i < s.length
      · obtain ⟨gw, cw2, e1, -⟩ := hM.room 1 (v := .slice aw s.length cw) rfl (by omega)
        injection e1 with e1 _ e2
        subst e1 e2
        obtain ⟨rx, hr⟩ : ∃ rx, rw[i]? = some rx := ⟨_, List.getElem?_eq_getElem (by rw [HK4.out]; exact hlt)⟩
        have c3 : wr.cell? ⟨gw, i, none⟩ = some rx := hM.cellAt (i := 1) rfl hr
        have hO : OwnI wr w0.heap.size (rw[i]?.getD undef) ((s[i]?.map (·.1)).getD []) := hM.wordAt1 HK4.out hlt
        rw [hr, Option.getD_some, ← List.getElem?_map] at hO
        have hx : (s.map (·.1))[i]? = some ((s.map (·.1))[i]?.getD []) := by rw [List.getElem?_eq_getElem (by rw [HMAP.out]; exact hlt)]; rfl
        have HX : Hid (GW m ((s.map (·.1))[i]?.getD []) ∧ ((s.map (·.1))[i]?.getD []).length ≤ 5) := by
          rw [List.getElem?_map, List.getElem?_eq_getElem hlt]
          exact ⟨HBS.out.gw _ (List.getElem_mem hlt), HBS.out.len _ (List.getElem_mem hlt)⟩
        have HUB : Hid (∀ b c, cenK m gs ((s.map (·.1))[i]?.getD []) gs.length = (b, c) → c ≠ 0 → cenX m r = ([], c)) := fun b c h1 h2 => HDE.out c (cenU_end (cenU_bad HU.out h1 h2) (by rw [HMAP.out]; exact hlt))
        have HUY := Lib.hid (fun h => cenU_yes HU.out h)
        have HUN := Lib.hid (fun h => cenU_no HU.out h)
        have HSY : Hid ((rl ++ [rx]).length = (l ++ [(s.map (·.1))[i]?.getD []]).length ∧ (l ++ [(s.map (·.1))[i]?.getD []]).length ≤ i + 1 ∧ (rowG (rl ++ [rx]) (l ++ [(s.map (·.1))[i]?.getD []])).Sublist (rowG (rw.take (i + 1)) ((s.map (·.1)).take (i + 1)))) := by
          have e1 : rw.take (i + 1) = rw.take i ++ [rx] := by rw [List.take_add_one, hr]; rfl
          have e2 : (s.map (·.1)).take (i + 1) = (s.map (·.1)).take i ++ [(s.map (·.1))[i]?.getD []] := by rw [List.take_add_one, hx]; rfl
          refine ⟨by simp [HS.out.1], by simp; exact HS.out.2.1, ?_⟩
          rw [e1, e2, rowG_snoc _ _ HS.out.1, rowG_snoc _ _ (by simp [HK4.out])]
          exact HS.out.2.2.append (List.Sublist.refl _)
        have HSN : Hid (rl.length = l.length ∧ l.length ≤ i + 1 ∧ (rowG rl l).Sublist (rowG (rw.take (i + 1)) ((s.map (·.1)).take (i + 1)))) := by
          have e1 : rw.take (i + 1) = rw.take i ++ [rx] := by rw [List.take_add_one, hr]; rfl
          have e2 : (s.map (·.1)).take (i + 1) = (s.map (·.1)).take i ++ [(s.map (·.1))[i]?.getD []] := by rw [List.take_add_one, hx]; rfl
          refine ⟨HS.out.1, by have := HS.out.2.1; omega, ?_⟩
          rw [e1, e2, rowG_snoc _ _ (by simp [HK4.out])]
          exact HS.out.2.2.trans (List.sublist_append_left _ _)
        have hll := HS.out.2.1
        clear hr hx HU
        generalize (s.map (·.1))[i]?.getD [] = x at *
        obtain ⟨a1, c1, rfl, -⟩ := id hO.form
        have HIC := Lib.hid (HIC.out wr _ a1 c1 x hM HX.out.1 (by have := HX.out.2; omega) hO)
        have HQ : Hid (cenK m gs x gs.length = (true, 0) ∨ cenK m gs x gs.length = (false, 0) ∨ cenK m gs x gs.length = (false, 3)) := cenK_or m gs x _
        have i1 : (0 : Int) ≤ (i : Int) := by omega
        have i2 : (i : Int) < (s.length : Int) := by omega
        have HM := Lib.hid hM
        generalize cenK m gs x gs.length = R at *
        clear hM hO
        go_wp2_with fail
        refine HIC.out.mono ?_
        rintro e w5 ⟨rfl, hb5⟩
        have hM5 := HM.out.call hb5
        clear HIC HM hb5 c3
        rcases HQ.out with rfl | rfl | rfl
        · have HU2 := Lib.hid (HUY.out rfl)
          clear HUY HUN HUB
          go_wp2_with (at_builtin; refine Mg.appendO rfl (.tmp 41) (.tmp 43) 35 rfl hM5 0 rfl Try.underlying35 hi0 hz0 hz1 hz2 rfl (by decide) [.slice a1 x.length c1] (us := #[_]) rfl rfl rfl w5.heap.size rfl rfl (by simp [Value.oneCell']) (by omega) (by omega) ?_)
          intro g8 c8 w8 hM8 hO8
          (try simp only [List.set_cons_zero] at hM8)
          have HM8 : Hid (Mg w0.heap.size w0 w8 [(b, bcell G ga gs.length gc (.slice (some ⟨gw, 0, none⟩) s.length cw) vm (lastN st) vs, 97)] (⟨.slice (some ⟨g8, 0, none⟩) (l.length + 1) c8, 26, 1, (l ++ [x]).length, rl ++ [.slice a1 x.length c1]⟩ :: (ballG s (.slice (some ⟨gw, 0, none⟩) s.length cw) rw vm vs (cntB st s.length) ++ []))) := by
            rw [List.length_append, List.length_singleton, List.append_nil]; exact hM8
          clear hM5 hM8 hO8
          go_wp2_with fail
          go_roundw
          case rel => exact ⟨i + 1, _, _, by omega, by go_num, HU2.out, HSY.out, HM8.out⟩
          case measure => simp [intOf] <;> omega
        · have HU2 := Lib.hid (HUN.out rfl)
          have HM8 := Lib.hid hM5
          clear HUY HUN HUB hM5
          go_wp2_with fail
          go_roundw
          case rel => exact ⟨i + 1, _, _, by omega, by go_num, HU2.out, HSN.out, HM8.out⟩
          case measure => simp [intOf] <;> omega
        · have HD := Lib.hid (HUB.out _ _ rfl (by decide))
          have HB := Lib.hid (HK1.out.trans (hM5.below.mono HK1.out.size))
          clear HUY HUN HUB hM5
          go_wp2_with fail
          go_ret2
          rw [HD.out]
          exact ⟨_, rfl, HB.out, OwnII.nil _ _ HB.out.size⟩
      · have hi' : i = s.length := by omega
        subst hi'
        have i2 : ¬ ((s.length : Int) < (s.length : Int)) := by omega
        have HD := Lib.hid (HDO.out l (by rw [HMAP.out]; exact HU.out))
        have HB := Lib.hid (HK1.out.trans (hM.below.mono HK1.out.size))
        have HO : Hid (OwnII wr w.heap.size u8 l) := by
          have h2 := hM.sub (List.nil_sublist _)
          have h3 : Mg w0.heap.size w0 wr [] (((u8, 26, rl) :: rowG rl l).map Gr.of) := by
            have e : Gr.of (u8, 26, rl) = ⟨u8, 26, 1, l.length, rl⟩ := by simp [Gr.of, HS.out.1]
            rw [List.map_cons, e]
            refine h2.subG (List.Sublist.cons_cons _ ?_)
            rw [ballG, List.append_nil]
            refine List.Sublist.cons _ (List.Sublist.cons _ (List.Sublist.cons _ (List.Sublist.map _ ?_)))
            have h4 := HS.out.2.2
            rw [List.take_of_length_le (by rw [HK4.out]; exact Nat.le_refl _), List.take_of_length_le (by rw [HMAP.out]; exact Nat.le_refl _)] at h4
            exact h4
          exact OwnII.of (h3.mm.less HK1.out.size) HS.out.1
        clear hM
        go_wp2_with fail
        go_ret2
        rw [HD.out]
        exact ⟨_, rfl, HB.out, HO.out⟩
end Go.Proofs.Yteagecoiijhflaa
