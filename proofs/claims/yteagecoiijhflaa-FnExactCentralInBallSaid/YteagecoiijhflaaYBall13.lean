import Derived.Test.YteagecoiijhflaaYBall12
import Derived.Test.YteagecoiijhflaaYBall02
import Derived.Test.YteagecoiijhflaaYBall08
import Derived.Test.YteagecoiijhflaaYBall10
import Derived.Maps.AppendAt
import Derived.Laws.AppendOwnNone
import Derived.Shelf.Bits.Mul64
import Derived.Laws.CopyOwn
import Derived.Test.YteagecoiijhflaaYBall06
import Derived.Test.YteagecoiijhflaaYBall04
import Derived.Lib.SliceRun
/- The machine of a word, plain: the states met, in their order. -/
namespace Go.Proofs.Yteagecoiijhflaa
open Go.RowKit
set_option linter.unusedVariables false
set_option linter.unusedSimpArgs false

/-- a state is put in, if it is new -/
def insN (S : List Nat) (r : Nat) : List Nat := if r ∈ S then S else S ++ [r]
/-- the first x letters of state q are done -/
def bfsX (t : Tbl) (q : Nat) (S : List Nat) : Nat → List Nat
  | 0 => S
  | x + 1 => insN (bfsX t q S x) (t.fin (t.nx q x))
/-- the first states are done -/
def bfsN (t : Tbl) : Nat → List Nat
  | 0 => [t.fin 0]
  | i + 1 => if i < (bfsN t i).length then bfsX t ((bfsN t i)[i]?.getD 0) (bfsN t i) t.d else bfsN t i
def ordT (t : Tbl) : List Nat := bfsN t t.n
structure BfsOk (t : Tbl) (S : List Nat) : Prop where
  nodup : S.Nodup
  lt : ∀ r ∈ S, r < t.n
  pos : 1 ≤ S.length
theorem nodup_len : ∀ (n : Nat) (S : List Nat), S.Nodup → (∀ r ∈ S, r < n) → S.length ≤ n
  | 0, S, _, h => by
    cases S with
    | nil => simp
    | cons a S => have := h a (List.mem_cons_self ..); omega
  | n + 1, S, hd, h => by
    by_cases hm : n ∈ S
    · have h1 := nodup_len n (S.erase n) (hd.erase n) (fun r hr => by
        have := h r (List.mem_of_mem_erase hr)
        have hne : r ≠ n := fun e => by subst e; exact (List.Nodup.not_mem_erase hd) hr
        omega)
      rw [List.length_erase_of_mem hm] at h1
      omega
    · have h1 := nodup_len n S hd (fun r hr => by
        have := h r hr
        have hne : r ≠ n := fun e => by subst e; exact hm hr
        omega)
      omega
theorem BfsOk.len {t : Tbl} {S : List Nat} (h : BfsOk t S) : S.length ≤ t.n := nodup_len _ _ h.nodup h.lt
theorem BfsOk.ins {t : Tbl} {S : List Nat} (h : BfsOk t S) {r : Nat} (hr : r < t.n) : BfsOk t (insN S r) := by
  unfold insN
  split
  · exact h
  · rename_i hm
    refine ⟨?_, fun x hx => ?_, by simp⟩
    · rw [List.nodup_append]
      exact ⟨h.nodup, by simp, fun a ha b hb => by rw [List.mem_singleton.1 hb]; intro e; subst e; exact hm ha⟩
    · rcases List.mem_append.1 hx with hx | hx
      · exact h.lt x hx
      · rw [List.mem_singleton.1 hx]; exact hr
theorem fin_lt {t : Tbl} {q : Nat} (h : q < t.n) : t.fin q < t.n := Nat.lt_of_le_of_lt (t.fin_le q) h
theorem BfsOk.row {t : Tbl} (hw : t.Wf) {S : List Nat} (h : BfsOk t S) {q : Nat} (hq : q < t.n) : ∀ x, x ≤ t.d → BfsOk t (bfsX t q S x)
  | 0, _ => h
  | x + 1, hx => (BfsOk.row hw h hq x (by omega)).ins (fin_lt (hw q x hq (by omega)))
theorem insN_pre (S : List Nat) (r : Nat) : ∃ R, insN S r = S ++ R := by
  unfold insN
  split
  · exact ⟨[], (List.append_nil S).symm⟩
  · exact ⟨[r], rfl⟩
theorem bfsX_pre (t : Tbl) (q : Nat) (S : List Nat) : ∀ x, ∃ R, bfsX t q S x = S ++ R
  | 0 => ⟨[], (List.append_nil S).symm⟩
  | x + 1 => by
    obtain ⟨R, h⟩ := bfsX_pre t q S x
    obtain ⟨R', h'⟩ := insN_pre (bfsX t q S x) (t.fin (t.nx q x))
    exact ⟨R ++ R', by rw [bfsX, h', h, List.append_assoc]⟩
theorem bfsN_ok {t : Tbl} (hw : t.Wf) (hn : 1 ≤ t.n) : ∀ i, BfsOk t (bfsN t i)
  | 0 => ⟨by simp [bfsN], fun r hr => by rw [List.mem_singleton.1 hr]; exact fin_lt (by omega), by simp [bfsN]⟩
  | i + 1 => by
    have h := bfsN_ok hw hn i
    rw [bfsN]
    split
    · rename_i hi
      refine h.row hw (h.lt _ ?_) _ (Nat.le_refl _)
      rw [List.getElem?_eq_getElem hi, Option.getD_some]
      exact List.getElem_mem hi
    · exact h
theorem bfsN_at {t : Tbl} (hw : t.Wf) (hn : 1 ≤ t.n) {i k : Nat} (hk : k < (bfsN t i).length) : (bfsN t i)[k]?.getD 0 < t.n := by
  rw [List.getElem?_eq_getElem hk, Option.getD_some]
  exact (bfsN_ok hw hn i).lt _ (List.getElem_mem hk)
theorem bfsN_end {t : Tbl} {i : Nat} (h : (bfsN t i).length ≤ i) : ∀ j, bfsN t (i + j) = bfsN t i
  | 0 => rfl
  | j + 1 => by
    have := bfsN_end h j
    rw [← Nat.add_assoc, bfsN, this, if_neg (by omega)]
theorem bfsN_pre (t : Tbl) (i : Nat) : ∀ j, ∃ R, bfsN t (i + j) = bfsN t i ++ R
  | 0 => ⟨[], (List.append_nil _).symm⟩
  | j + 1 => by
    obtain ⟨R, h⟩ := bfsN_pre t i j
    rw [← Nat.add_assoc, bfsN]
    split
    · obtain ⟨R', h'⟩ := bfsX_pre t ((bfsN t (i + j))[i + j]?.getD 0) (bfsN t (i + j)) t.d
      exact ⟨R ++ R', by rw [h', h, List.append_assoc]⟩
    · exact ⟨R, h⟩
theorem ordT_end {t : Tbl} (hw : t.Wf) (hn : 1 ≤ t.n) {i : Nat} (h : (bfsN t i).length ≤ i) : ordT t = bfsN t i := by
  rcases Nat.le_total i t.n with c | c
  · have := bfsN_end h (t.n - i)
    rwa [show i + (t.n - i) = t.n by omega] at this
  · have h2 := (bfsN_ok hw hn t.n).len
    have := bfsN_end h2 (i - t.n)
    rw [show t.n + (i - t.n) = i by omega] at this
    exact this.symm
theorem ordT_pre {t : Tbl} (hw : t.Wf) (hn : 1 ≤ t.n) (i : Nat) : ∃ R, ordT t = bfsN t i ++ R := by
  rcases Nat.le_total i t.n with c | c
  · obtain ⟨R, h⟩ := bfsN_pre t i (t.n - i)
    exact ⟨R, by rw [← h, show i + (t.n - i) = t.n by omega]; rfl⟩
  · have h2 := (bfsN_ok hw hn t.n).len
    have := bfsN_end h2 (i - t.n)
    rw [show t.n + (i - t.n) = i by omega] at this
    exact ⟨[], by rw [List.append_nil, this]; rfl⟩
theorem ordT_ok {t : Tbl} (hw : t.Wf) (hn : 1 ≤ t.n) : BfsOk t (ordT t) := bfsN_ok hw hn t.n
/-- all next states of the states met are met -/
theorem bfsX_mem {t : Tbl} {q : Nat} {S : List Nat} : ∀ {x y : Nat}, y < x → t.fin (t.nx q y) ∈ bfsX t q S x
  | 0, y, h => by omega
  | x + 1, y, h => by
    rw [bfsX]
    by_cases e : y = x
    · subst e
      unfold insN
      split
      · assumption
      · simp
    · obtain ⟨R, hR⟩ := insN_pre (bfsX t q S x) (t.fin (t.nx q x))
      rw [hR]
      exact List.mem_append_left _ (bfsX_mem (by omega))
theorem bfsN_step {t : Tbl} {i : Nat} (h : i < (bfsN t i).length) : bfsN t (i + 1) = bfsX t ((bfsN t i)[i]?.getD 0) (bfsN t i) t.d := by rw [bfsN, if_pos h]
theorem pre_at {S R : List Nat} {k : Nat} (h : k < S.length) : (S ++ R)[k]?.getD 0 = S[k]?.getD 0 := by rw [List.getElem?_append_left h]
theorem ordT_next {t : Tbl} (hw : t.Wf) (hn : 1 ≤ t.n) {k x : Nat} (hk : k < (ordT t).length) (hx : x < t.d) : t.fin (t.nx ((ordT t)[k]?.getD 0) x) ∈ ordT t := by
  have hlen := (ordT_ok hw hn).len
  -- the queue is longer than k when k is done
  by_cases hkk : k < (bfsN t k).length
  · have e1 := bfsN_step hkk
    obtain ⟨R, hR⟩ := ordT_pre hw hn k
    obtain ⟨R2, hR2⟩ := ordT_pre hw hn (k + 1)
    have e2 : (ordT t)[k]?.getD 0 = (bfsN t k)[k]?.getD 0 := by rw [hR, pre_at hkk]
    rw [e2, hR2, e1]
    exact List.mem_append_left _ (bfsX_mem hx)
  · have := ordT_end hw hn (i := k) (by omega)
    rw [this] at hk; omega
/-- the machine of some states of a table -/
def gathM (L : Int) (t : Tbl) (S : List Nat) (num : Nat → Nat) : Mch := ⟨L, (S.length : Int), grid S.length t.d (fun i x => num (t.nx (S[i]?.getD 0) x)), grid S.length t.d (fun i x => t.ot (S[i]?.getD 0) x)⟩
theorem gathM_wf {L : Int} {t : Tbl} {S : List Nat} {num : Nat → Nat} (hL : -9223372036854775808 ≤ L ∧ L ≤ 9223372036854775807) (hS : S.length ≤ 16) (h1 : ∀ i x, i < S.length → x < t.d → num (t.nx (S[i]?.getD 0) x) ≤ 255) (h2 : ∀ i x, i < S.length → x < t.d → t.ot (S[i]?.getD 0) x ≤ 255) : (gathM L t S num).Wf := by
  refine ⟨by simp [gathM, grid_len], by simp [gathM, grid_len], fun i => ?_, fun i => ?_, hL, ?_⟩
  · simpa [gathM] using grid_bound (n := S.length) (d := t.d) (b := 255) (f := fun i x => num (t.nx (S[i]?.getD 0) x)) h1 i
  · simpa [gathM] using grid_bound (n := S.length) (d := t.d) (b := 255) (f := fun i x => t.ot (S[i]?.getD 0) x) h2 i
  · simp only [gathM]; omega

/-- the table of a word's sections -/
def tblW (m : Mch) (Q : List Wd) (N : List (List Nat)) : Tbl := ⟨Q.length, m.l, fun i x => (N[i]?.getD [])[x]?.getD 0, fun i x => ledX m (Q[i]?.getD []) x⟩
def anyB : Wd → Bool := fun _ => true
/-- the machine of a word, or 3 -/
def mwT (L : Int) (t : Tbl) : Option Mch := if 16 < (ordT t).length then none else some (gathM L t (ordT t) fun r => (ordT t).idxOf (t.fin r))
def mwR (m : Mch) (g : Wd) : Option Mch := match secR m anyB g with
  | .error _ => none
  | .ok (Q, N) => mwT m.L (tblW m Q N)
theorem bSt_rows {m : Mch} (hok : m.Ok) (hwf : m.Wf) (want : Wd → Bool) {g : Wd} (hg : GW m g) : ∀ (i : Nat) {Q : List Wd} {N : List (List Nat)}, bSt m want g i = .ok (Q, N) → (i ≤ Q.length → N.length = i) ∧ (Q.length ≤ i → N.length = Q.length)
  | 0, Q, N, h => by
    have h1 := bSt_ok hok hwf want hg 0 h
    refine ⟨h1.2.1, fun hq => ?_⟩
    have := h1.1.pos; omega
  | i + 1, Q, N, h => by
    have h1 := bSt_ok hok hwf want hg (i + 1) h
    refine ⟨h1.2.1, fun hq => ?_⟩
    by_cases e : Q.length = i + 1
    · rw [e]; exact h1.2.1 (by omega)
    · rw [bSt] at h
      cases h2 : bSt m want g i with
      | error c => rw [h2] at h; cases h
      | ok p =>
        obtain ⟨Q1, N1⟩ := p
        have ih := bSt_rows hok hwf want hg i h2
        have hb := bSt_ok hok hwf want hg i h2
        rw [h2] at h
        simp only at h
        split at h
        · rename_i hi
          split at h
          · cases h3 : qRow m (Q1[i]?.getD []) m.l Q1 with
            | none => rw [h3] at h; cases h
            | some p =>
              obtain ⟨Q2, r⟩ := p
              rw [h3] at h
              injection h with h
              injection h with e1 e2
              subst e1 e2
              have hq := hb.1.toQOk.at hi
              have := (QOk.row hok hwf hq.1 hq.2 (Nat.le_refl _) hb.1.toQOk h3).2.2.2.1
              omega
          · cases h
        · injection h with h
          injection h with e1 e2
          subst e1 e2
          exact ih.2 (by omega)
theorem secR_ok {m : Mch} (hok : m.Ok) (hwf : m.Wf) {want : Wd → Bool} {g : Wd} (hg : GW m g) {Q : List Wd} {N : List (List Nat)} (h : secR m want g = .ok (Q, N)) : BOk m g.length Q N ∧ N.length = Q.length := by
  have h1 := bSt_ok hok hwf want hg 200 h
  exact ⟨h1.1, (bSt_rows hok hwf want hg 200 h).2 h1.1.many⟩
theorem tblW_wf {m : Mch} {Q : List Wd} {N : List (List Nat)} {n : Nat} (h : BOk m n Q N) (hl : N.length = Q.length) : (tblW m Q N).Wf := fun q x hq hx => by
  have hq' : q < N.length := by rw [hl]; exact hq
  have h1 := h.row _ (List.getElem_mem hq')
  simp only [tblW, List.getElem?_eq_getElem hq', Option.getD_some]
  have hx' : x < (N[q]).length := by rw [h1.1]; exact hx
  rw [List.getElem?_eq_getElem hx', Option.getD_some]
  exact h1.2 _ (List.getElem_mem hx')
theorem tblW_ot {m : Mch} (hok : m.Ok) (hwf : m.Wf) {Q : List Wd} {N : List (List Nat)} {n : Nat} (h : BOk m n Q N) {q x : Nat} (hq : q < Q.length) (hx : x < m.l) : (tblW m Q N).ot q x < m.l := ledX_lt hok hwf (h.toQOk.at hq).1 hx
theorem mwT_wf {m : Mch} (hok : m.Ok) (hwf : m.Wf) {g : Wd} (hg : GW m g) {M : Mch} (h : mwR m g = some M) : M.Wf := by
  unfold mwR at h
  cases hs : secR m anyB g with
  | error c => rw [hs] at h; cases h
  | ok p =>
    obtain ⟨Q, N⟩ := p
    rw [hs] at h
    obtain ⟨hb, hl⟩ := secR_ok hok hwf hg hs
    have hw := tblW_wf hb hl
    have hn : 1 ≤ (tblW m Q N).n := hb.pos
    simp only [mwT] at h
    split at h
    · cases h
    · rename_i hlen
      injection h with h
      subst h
      have hs := (ordT_ok hw hn)
      have hl3 := hok.l_le
      refine gathM_wf hwf.lb (by omega) (fun i x hi hx => ?_) (fun i x hi hx => ?_)
      · have := List.idxOf_lt_length_iff.2 (ordT_next hw hn hi hx)
        omega
      · have hq : (ordT (tblW m Q N))[i]?.getD 0 < Q.length := by
          rw [List.getElem?_eq_getElem hi, Option.getD_some]
          exact hs.lt _ (List.getElem_mem hi)
        have := tblW_ot hok hwf hb hq hx
        omega
end Go.Proofs.Yteagecoiijhflaa

/- (*table).gathered: the machine of some states of a table. -/
namespace Go.Proofs.Yteagecoiijhflaa
open Go.RowKit
set_option linter.unusedVariables false
set_option linter.unusedSimpArgs false

/-- the rows ahead of q and the first x numbers of row q are given -/
def gaP (d : Nat) (f : Nat → Nat → Nat) (q x : Nat) : List Int := (List.range 48).map fun j => if j % 3 < d ∧ (j / 3 < q ∨ j / 3 = q ∧ j % 3 < x) then (f (j / 3) (j % 3) : Int) else 0
theorem gaP_len (d : Nat) (f : Nat → Nat → Nat) (q x : Nat) : (gaP d f q x).length = 48 := by simp [gaP]
theorem gaP_set {d : Nat} {f : Nat → Nat → Nat} {q x : Nat} (hq : q < 16) (hx : x < d) (hd : d ≤ 3) : (gaP d f q x).set (q * 3 + x) (f q x : Int) = gaP d f q (x + 1) := by
  rw [gaP, map48_set _ (by omega), gaP]
  refine map48_congr fun i hi => ?_
  by_cases e : i = q * 3 + x
  · subst e
    rw [if_pos rfl, show (q * 3 + x) / 3 = q by omega, show (q * 3 + x) % 3 = x by omega, if_pos ⟨hx, .inr ⟨rfl, by omega⟩⟩]
  · rw [if_neg e]
    have h : (i % 3 < d ∧ (i / 3 < q ∨ i / 3 = q ∧ i % 3 < x)) ↔ (i % 3 < d ∧ (i / 3 < q ∨ i / 3 = q ∧ i % 3 < x + 1)) := by
      constructor
      · rintro ⟨a, b⟩; exact ⟨a, b.imp id fun ⟨c, d⟩ => ⟨c, by omega⟩⟩
      · rintro ⟨a, b⟩
        refine ⟨a, b.imp id fun ⟨c, d⟩ => ⟨c, ?_⟩⟩
        omega
    by_cases c : i % 3 < d ∧ (i / 3 < q ∨ i / 3 = q ∧ i % 3 < x)
    · rw [if_pos c, if_pos (h.1 c)]
    · rw [if_neg c, if_neg fun k => c (h.2 k)]
theorem gaP_row (d : Nat) (f : Nat → Nat → Nat) (q : Nat) : gaP d f q d = gaP d f (q + 1) 0 := by
  rw [gaP, gaP]
  refine map48_congr fun i hi => ?_
  have h : (i % 3 < d ∧ (i / 3 < q ∨ i / 3 = q ∧ i % 3 < d)) ↔ (i % 3 < d ∧ (i / 3 < q + 1 ∨ i / 3 = q + 1 ∧ i % 3 < 0)) := by
    constructor
    · rintro ⟨a, b | b⟩
      · exact ⟨a, .inl (by omega)⟩
      · exact ⟨a, .inl (by omega)⟩
    · rintro ⟨a, b | b⟩
      · refine ⟨a, ?_⟩
        by_cases e : i / 3 = q
        · exact .inr ⟨e, a⟩
        · exact .inl (by omega)
      · omega
  by_cases c : i % 3 < d ∧ (i / 3 < q ∨ i / 3 = q ∧ i % 3 < d)
  · rw [if_pos c, if_pos (h.1 c)]
  · rw [if_neg c, if_neg fun k => c (h.2 k)]
theorem gaP_all (n d : Nat) (f : Nat → Nat → Nat) : gaP d f n 0 = grid n d f := by
  rw [gaP, grid]
  refine map48_congr fun i hi => ?_
  by_cases c : i / 3 < n ∧ i % 3 < d
  · rw [if_pos c, if_pos ⟨c.2, .inl c.1⟩]
  · rw [if_neg c, if_neg]
    rintro ⟨a, b | b⟩
    · exact c ⟨b, a⟩
    · omega
theorem gaP_zero (d : Nat) (f : Nat → Nat → Nat) : gaP d f 0 0 = List.replicate 48 0 := by
  have h : gaP d f 0 0 = (List.range 48).map fun _ => (0 : Int) := map48_congr fun i hi => if_neg (by omega)
  rw [h]; rfl
theorem gaP_bound {d : Nat} {f : Nat → Nat → Nat} {q x : Nat} (hf : ∀ i y, (i < q ∨ i = q ∧ y < x) → y < d → f i y ≤ 255) (i : Nat) : 0 ≤ (gaP d f q x)[i]?.getD 0 ∧ (gaP d f q x)[i]?.getD 0 ≤ 255 := by
  by_cases h : i < 48
  · simp only [gaP, List.getElem?_map, List.getElem?_range h, Option.map_some, Option.getD_some]
    split
    · rename_i hc
      have := hf _ _ hc.2 hc.1
      omega
    · omega
  · rw [List.getElem?_eq_none (by rw [gaP_len]; omega)]
    simp only [Option.getD_none]; omega
/-- a machine while it is filled -/
def paM (L S : Int) (d : Nat) (f g : Nat → Nat → Nat) (q x y : Nat) : Mch := ⟨L, S, gaP d f q x, gaP d g q y⟩
theorem paM_wf {L S : Int} {d : Nat} {f g : Nat → Nat → Nat} {q x y : Nat} (hL : -9223372036854775808 ≤ L ∧ L ≤ 9223372036854775807) (hS : -9223372036854775808 ≤ S ∧ S ≤ 9223372036854775807)
    (hf : ∀ i z, (i < q ∨ i = q ∧ z < x) → z < d → f i z ≤ 255) (hg : ∀ i z, (i < q ∨ i = q ∧ z < y) → z < d → g i z ≤ 255) : (paM L S d f g q x y).Wf :=
  ⟨gaP_len _ _ _ _, gaP_len _ _ _ _, gaP_bound hf, gaP_bound hg, hL, hS⟩
theorem paM_setN {L S : Int} {d : Nat} {f g : Nat → Nat → Nat} {q x y : Nat} (hq : q < 16) (hx : x < d) (hd : d ≤ 3) : (paM L S d f g q x y).cells.set (2 + q * 3 + x) (.int .u8 (f q x : Int)) = (paM L S d f g q (x + 1) y).cells := by
  rw [Nat.add_assoc, paM, cells_setN _ _ _ _ _ (by rw [gaP_len]; omega), gaP_set hq hx hd]; rfl
theorem paM_setO {L S : Int} {d : Nat} {f g : Nat → Nat → Nat} {q x y : Nat} (hq : q < 16) (hx : y < d) (hd : d ≤ 3) : (paM L S d f g q x y).cells.set (50 + q * 3 + y) (.int .u8 (g q y : Int)) = (paM L S d f g q x (y + 1)).cells := by
  rw [Nat.add_assoc, paM, cells_setO _ _ _ _ _ (gaP_len _ _ _ _), gaP_set hq hx hd]; rfl
theorem paM_row (L S : Int) (d : Nat) (f g : Nat → Nat → Nat) (q : Nat) : paM L S d f g q d d = paM L S d f g (q + 1) 0 0 := by rw [paM, gaP_row, gaP_row]; rfl
theorem paM_all (L S : Int) (n d : Nat) (f g : Nat → Nat → Nat) : paM L S d f g n 0 0 = ⟨L, S, grid n d f, grid n d g⟩ := by rw [paM, gaP_all, gaP_all]
theorem paM_start (L S : Int) (d : Nat) (f g : Nat → Nat → Nat) : ((Try.zeroCells29.setIfInBounds 0 (.int .i64 L)).setIfInBounds 1 (.int .i64 S)) = (paM L S d f g 0 0 0).cells.toArray := by
  apply Array.toList_inj.1
  rw [zero98, paM, gaP_zero, gaP_zero]; rfl
theorem gathM_get {L : Int} {t : Tbl} {S : List Nat} {num : Nat → Nat} : gathM L t S num = paM L (S.length : Int) t.d (fun i x => num (t.nx (S[i]?.getD 0) x)) (fun i x => t.ot (S[i]?.getD 0) x) S.length 0 0 := by
  rw [paM_all]; rfl
set_option maxRecDepth 100000 in
set_option maxHeartbeats 4000000 in
theorem gathered_any (t : Tbl) (hw : t.Wf) (hn : t.n ≤ 1000) (hd : t.d ≤ 3) (T : Nat) (L : Int) (hL : -9223372036854775808 ≤ L ∧ L ≤ 9223372036854775807) (S : List Nat) (h16 : S.length ≤ 16) (hS : ∀ i, i < S.length → S[i]?.getD 0 < t.n) (num : Nat → Nat)
    (hnum : ∀ i x, i < S.length → x < t.d → num (t.nx (S[i]?.getD 0) x) ≤ 255) (hot : ∀ i x, i < S.length → x < t.d → t.ot (S[i]?.getD 0) x ≤ 255)
    (k : Nat) (hent : Enters k) (cap : Array Value) (a : Option Addr) (c : Nat) (w : World) (hT : TabG w T t) (hI : IntsAt w a (natsI S))
    (hf : ∀ W, Below w.heap.size w W → ∀ i x, i < S.length → x < t.d → Calls Try.prog k (#[.int .i64 (t.nx (S[i]?.getD 0) x : Int)] ++ cap) W (RetQ (.int .i64 (num (t.nx (S[i]?.getD 0) x) : Int)) W)) :
    Calls Try.prog 159 #[.pointer (some ⟨T, 0, none⟩), .int .i64 L, .slice a S.length c, .func (.func k) #[] cap] w (Ret (.agg (gathM L t S num).cells.toArray) w) := by
  have hent' : ∀ args w, Sem.run Try.prog (callFunc k args) w = .ok (.enter k args) w := hent
  obtain ⟨gN, cN, gO, cO, t1, t2, t3, t4⟩ := id hT
  have HT1 := Lib.hid t1
  have HT2 := Lib.hid t2
  have HT3 := Lib.hid t3
  have HT4 := Lib.hid t4
  have HF := Lib.hid hf
  have HI := Lib.hid hI
  have HNUM := Lib.hid hnum
  have HOT := Lib.hid hot
  have HSL := Lib.hid hS
  have HGM : Hid (gathM L t S num = paM L (S.length : Int) t.d (fun (i x : Nat) => num (t.nx (S[i]?.getD 0) x)) (fun (i x : Nat) => t.ot (S[i]?.getD 0) x) S.length 0 0) := gathM_get
  generalize hfN : (fun (i x : Nat) => num (t.nx (S[i]?.getD 0) x)) = fN at *
  generalize hfO : (fun (i x : Nat) => t.ot (S[i]?.getD 0) x) = fO at *
  have HFN : Hid (∀ i x, num (t.nx (S[i]?.getD 0) x) = fN i x) := fun i x => by rw [← hfN]
  have HFO : Hid (∀ i x, t.ot (S[i]?.getD 0) x = fO i x) := fun i x => by rw [← hfO]
  have hpw : ∀ q x y, (∀ i z, (i < q ∨ i = q ∧ z < x) → i < S.length) → (∀ i z, (i < q ∨ i = q ∧ z < y) → i < S.length) → (paM L (S.length : Int) t.d fN fO q x y).Wf := fun q x y h1 h2 =>
    paM_wf hL (by omega) (fun i z hc hz => by rw [← HFN.out]; exact HNUM.out i z (h1 i z hc) hz) (fun i z hc hz => by rw [← HFO.out]; exact HOT.out i z (h2 i z hc) hz)
  have HPW := Lib.hid hpw
  have hw0 := hpw 0 0 0 (fun i z h => by omega) (fun i z h => by omega)
  have HIF := Lib.hid (mach_infoT hw0)
  have H1 := Lib.hid (mach_ones (paM L (S.length : Int) t.d fN fO 0 0 0))
  have HST := Lib.hid (paM_start L (S.length : Int) t.d fN fO)
  have HMX := Lib.hid (show Try.prog.follows .mixedOrders = true by kernel_rfl)
  have hlen := Mch.cells_length hw0
  have hM0 := ((Mm.start w).alloc Try.zeroCells29 29).alloc Try.zeroCells29 29
  rw [World.size_alloc] at hM0
  have ht := (hM0.at 0 rfl).there 0 (paM L (S.length : Int) t.d fN fO 0 0 0).cells.length (by simp only; rw [zero_len, hlen]; omega)
  have hM1 := hM0.setAll 0 rfl (vs := (paM L (S.length : Int) t.d fN fO 0 0 0).cells) (by rw [zero_len, hlen])
  simp only [List.set_cons_zero] at hM1
  have HM1 := Lib.hid hM1
  clear hent hT hI hf hnum hot hS t1 t2 t3 t4 hfN hfO hpw hw0 hM0 hM1 hlen
  go_enter Try.func159, Try.ntmps159
  go_wp2_with ((with_reducible refine st_row ?_ 29 (.tmp 9) (.tmp 17) ?_ (w.heap.size + 1) 0 (paM L (S.length : Int) t.d fN fO 0 0 0).cells ?_ ?_ ht HIF.out H1.out ?_); exact rfl; exact rfl; exact rfl; (rw [← HST.out]; exact rfl))
  clear ht
  go_loopw [20] (fun i wr => ∃ q : Nat, q ≤ S.length ∧ i = .int .i64 q ∧ Mm w.heap.size w wr [(w.heap.size + 1, (paM L (S.length : Int) t.d fN fO q 0 0).cells, 29), (w.heap.size, Try.zeroCells29.toList, 29)] []) (fun i _ => S.length - (intOf i).toNat)
  case atStart => exact ⟨0, Nat.zero_le _, rfl, HM1.out⟩
  case round =>
    clear HM1 HIF H1 HST
    obtain ⟨q, hq, rfl, hM⟩ := hrel
    by_cases hlt : q < S.length
    · have i1 : (0 : Int) ≤ (q : Int) := by omega
      have i2 : (q : Int) < 16 := by omega
      have i3 : (q : Int) < (S.length : Int) := by omega
      have hsl := HSL.out q hlt
      obtain ⟨bs, os, rfl, cs⟩ := HI.out q (by simpa [natsI] using hlt)
      have cs := (hM.below.cell (World.block_lt_of_cell? _ _ cs)).trans cs
      have e1 : (natsI S)[q]?.getD 0 = ((S[q]?.getD 0 : Nat) : Int) := by simp [natsI, List.getElem?_map, List.getElem?_eq_getElem hlt]
      rw [e1] at cs
      have HFC : Hid (∀ W, Below w.heap.size w W → ∀ x, x < t.d → Calls Try.prog k (#[.int .i64 (t.nx (S[q]?.getD 0) x : Int)] ++ cap) W (RetQ (.int .i64 (fN q x : Int)) W)) := fun W hW x hx => by
        have := HF.out W hW q x hlt hx
        rwa [HFN.out] at this
      have HOE : Hid (∀ x, t.ot (S[q]?.getD 0) x = fO q x) := fun x => HFO.out q x
      have HNB : Hid (∀ x, x < t.d → fN q x ≤ 255) := fun x hx => by rw [← HFN.out]; exact HNUM.out q x hlt hx
      have HOB : Hid (∀ x, x < t.d → fO q x ≤ 255) := fun x hx => by rw [← HFO.out]; exact HOT.out q x hlt hx
      generalize S[q]?.getD 0 = r at *
      obtain ⟨g1, c1, d1, d2⟩ := HT3.out r hsl
      obtain ⟨g2, c2, d3, d4⟩ := HT4.out r hsl
      have ct := (hM.below.cell (World.block_lt_of_cell? _ _ HT1.out)).trans HT1.out
      have cn := (hM.below.cell (World.block_lt_of_cell? _ _ d1)).trans d1
      have HD2 := Lib.hid d2
      have HSM : Hid (∀ W, Below w.heap.size w W → W.cell? ⟨T, 1, none⟩ = some (.slice (some ⟨gO, 0, none⟩) t.n cO) ∧ W.cell? ⟨gO, r, none⟩ = some (.slice (some ⟨g2, 0, none⟩) t.d c2)) := fun W hW =>
        ⟨(hW.cell (World.block_lt_of_cell? _ _ HT2.out)).trans HT2.out, (hW.cell (World.block_lt_of_cell? _ _ d3)).trans d3⟩
      have HSO : Hid (∀ W, Below w.heap.size w W → ∀ x, x < t.d → W.cell? ⟨g2, x, none⟩ = some (.int .i64 (fO q x : Int))) := fun W hW x hx => by
        have := d4 x hx
        rw [HOE.out] at this
        exact (hW.cell (World.block_lt_of_cell? _ _ this)).trans this
      have r1 : (0 : Int) ≤ (r : Int) := by omega
      have r2 : (r : Int) < (t.n : Int) := by omega
      clear d1 d2 d3 d4 e1
      go_wp2_with fail
      clear cs ct cn
      obtain ⟨wo, rfl⟩ : ∃ wo : World, wo = wr := ⟨_, rfl⟩
      go_loopw [33] (fun i wr => ∃ x : Nat, x ≤ t.d ∧ i = .int .i64 x ∧ Mm w.heap.size w wr [(w.heap.size + 1, (paM L (S.length : Int) t.d fN fO q x x).cells, 29), (w.heap.size, Try.zeroCells29.toList, 29)] []) (fun i _ => t.d - (intOf i).toNat)
      case atStart => exact ⟨0, Nat.zero_le _, rfl, hM⟩
      case round =>
        clear hM
        obtain ⟨x, hx, rfl, hM⟩ := hrel
        by_cases hxl : x < t.d
        · have j1 : (0 : Int) ≤ (x : Int) := by omega
          have j2 : (x : Int) < 3 := by omega
          have j7 : (x : Int) < (t.d : Int) := by omega
          have cx := (hM.below.cell (World.block_lt_of_cell? _ _ (HD2.out x hxl))).trans (HD2.out x hxl)
          have hw1 := HPW.out q x x (fun i z h => by omega) (fun i z h => by omega)
          have hw2 := HPW.out q (x + 1) x (fun i z h => by omega) (fun i z h => by omega)
          have HM := Lib.hid hM
          have HCL := Lib.hid (HFC.out (wr.drew) hM.below.drew x hxl)
          have HNX := Lib.hid (HNB.out x hxl)
          have HOX := Lib.hid (HOB.out x hxl)
          have HSX : Hid (∀ W, Below w.heap.size w W → W.cell? ⟨g2, x, none⟩ = some (.int .i64 (fO q x : Int))) := fun W hW => HSO.out W hW x hxl
          have HN2 : Hid (∀ W, Mm w.heap.size w W [(w.heap.size + 1, (paM L (S.length : Int) t.d fN fO q x x).cells, 29), (w.heap.size, Try.zeroCells29.toList, 29)] [] →
              W.cell? ⟨w.heap.size + 1, 2 + q * 3 + x, none⟩ = some (.int .u8 ((paM L (S.length : Int) t.d fN fO q x x).n q x)) ∧ W.frozen? ⟨w.heap.size + 1, 2 + q * 3 + x, none⟩ = false ∧
              Mm w.heap.size w (W.setCell ⟨w.heap.size + 1, 2 + q * 3 + x, none⟩ (.int .u8 (fN q x : Int))) [(w.heap.size + 1, (paM L (S.length : Int) t.d fN fO q (x + 1) x).cells, 29), (w.heap.size, Try.zeroCells29.toList, 29)] []) := fun W h => by
            have d1 := (h.mach 0 rfl).nn hw1 (q := q) (x := x) (by omega) (by omega)
            have f1 := (h.at 0 rfl).free (2 + q * 3 + x)
            have h2 := h.setCell 0 rfl (2 + q * 3 + x) (.int .u8 (fN q x : Int))
            rw [paM_setN (by omega) hxl hd] at h2
            simp only [List.set_cons_zero] at h2
            exact ⟨by simpa using d1, f1, h2⟩
          have HO2 : Hid (∀ W, Mm w.heap.size w W [(w.heap.size + 1, (paM L (S.length : Int) t.d fN fO q (x + 1) x).cells, 29), (w.heap.size, Try.zeroCells29.toList, 29)] [] →
              W.cell? ⟨w.heap.size + 1, 50 + q * 3 + x, none⟩ = some (.int .u8 ((paM L (S.length : Int) t.d fN fO q (x + 1) x).o q x)) ∧ W.frozen? ⟨w.heap.size + 1, 50 + q * 3 + x, none⟩ = false ∧
              Mm w.heap.size w (W.setCell ⟨w.heap.size + 1, 50 + q * 3 + x, none⟩ (.int .u8 (fO q x : Int))) [(w.heap.size + 1, (paM L (S.length : Int) t.d fN fO q (x + 1) (x + 1)).cells, 29), (w.heap.size, Try.zeroCells29.toList, 29)] []) := fun W h => by
            have d1 := (h.mach 0 rfl).oo hw2 (q := q) (x := x) (by omega) (by omega)
            have f1 := (h.at 0 rfl).free (50 + q * 3 + x)
            have h2 := h.setCell 0 rfl (50 + q * 3 + x) (.int .u8 (fO q x : Int))
            rw [paM_setO (by omega) hxl hd] at h2
            simp only [List.set_cons_zero] at h2
            exact ⟨by simpa using d1, f1, h2⟩
          clear hM hw1 hw2
          go_wp2_with fail
          clear cx
          have hMd := HM.out.drew
          obtain ⟨Wd, hWd⟩ : ∃ W, W = wr.drew := ⟨_, rfl⟩
          refine region_S (fun W => (W.cell? ⟨T, 1, none⟩ = some (.slice (some ⟨gO, 0, none⟩) t.n cO) ∧ W.cell? ⟨gO, r, none⟩ = some (.slice (some ⟨g2, 0, none⟩) t.d c2)) ∧ W.cell? ⟨g2, x, none⟩ = some (.int .i64 (fO q x : Int))) [] 27 rfl HMX.out ⟨HSM.out _ hMd.below, HSX.out _ hMd.below⟩ (fun hU => ?_)
          rw [← hWd] at hU hMd HCL ⊢
          clear hWd
          generalize t.nx r x = nr at *
          have u1 : IntKind.u8.wrap (fN q x : Int) = (fN q x : Int) := IntWalk.u8_in _ ⟨by omega, by have := HNX.out; omega⟩
          have u2 : IntKind.u8.wrap (fO q x : Int) = (fO q x : Int) := IntWalk.u8_in _ ⟨by omega, by have := HOX.out; omega⟩
          generalize fN q x = nv at *
          generalize fO q x = ov at *
          (refine AnyS.take (i := 0) rfl (by kernel_rfl) (by kernel_rfl) (by kernel_rfl) (by rfl) (fun _ _ _ h => h) (by rfl) (by intro w; go_simp; with_reducible rfl) hU (fun hU => ?_); (try simp only [Act.put, List.setIfInBounds_toArray, List.set_cons_zero, List.set_cons_succ]); refine AnyS.take (i := 1) rfl (by kernel_rfl) (by kernel_rfl) (by kernel_rfl) (by rfl) (fun _ _ _ h => h) (by rfl) (by intro w; go_simp; with_reducible rfl) hU (fun hU => ?_); (try simp only [Act.put, List.setIfInBounds_toArray, List.set_cons_zero, List.set_cons_succ]); refine AnyS.take (i := 2) rfl (by kernel_rfl) (by kernel_rfl) (by kernel_rfl) (by rfl) (fun _ _ _ h => h) (by rfl) (by intro w; go_simp; with_reducible rfl) hU (fun hU => ?_); (try simp only [Act.put, List.setIfInBounds_toArray, List.set_cons_zero, List.set_cons_succ]); refine AnyS.take (i := 3) rfl (by kernel_rfl) (by kernel_rfl) (by kernel_rfl) (by rfl) (fun _ _ _ h => h) (by rfl) (by intro w; go_simp; with_reducible rfl) hU (fun hU => ?_); (try simp only [Act.put, List.setIfInBounds_toArray, List.set_cons_zero, List.set_cons_succ]); refine AnyS.take (i := 4) rfl (by kernel_rfl) (by kernel_rfl) (by kernel_rfl) (by rfl) (fun _ _ _ h => h) (by rfl) (by intro w; go_simp; with_reducible rfl) hU (fun hU => ?_); (try simp only [Act.put, List.setIfInBounds_toArray, List.set_cons_zero, List.set_cons_succ]); refine AnyS.take (i := 5) rfl (by kernel_rfl) (by kernel_rfl) (by kernel_rfl) (by rfl) (fun _ _ _ h => h) (by rfl) (by intro w; go_simp; with_reducible rfl) hU (fun hU => ?_); (try simp only [Act.put, List.setIfInBounds_toArray, List.set_cons_zero, List.set_cons_succ]); refine AnyS.take (i := 8) rfl (by kernel_rfl) (by kernel_rfl) (by kernel_rfl) (by rfl) (fun _ _ _ h => h) (by rfl) (by intro w; go_simp; with_reducible rfl) hU (fun hU => ?_); (try simp only [Act.put, List.setIfInBounds_toArray, List.set_cons_zero, List.set_cons_succ]); refine AnyS.take (i := 9) rfl (by kernel_rfl) (by kernel_rfl) (by kernel_rfl) (by rfl) (fun _ _ _ h => h) (by rfl) (by intro w; go_simp; with_reducible rfl) hU (fun hU => ?_); (try simp only [Act.put, List.setIfInBounds_toArray, List.set_cons_zero, List.set_cons_succ]); refine AnyS.take (i := 10) rfl (by kernel_rfl) (by kernel_rfl) (by kernel_rfl) (by rfl) (fun _ _ _ h => h) (by rfl) (by intro w; go_simp; with_reducible rfl) hU (fun hU => ?_); (try simp only [Act.put, List.setIfInBounds_toArray, List.set_cons_zero, List.set_cons_succ]))
          (refine AnyS.takeS (i := 11) rfl (by kernel_rfl) (by kernel_rfl) (by kernel_rfl) (by rfl) (by kernel_rfl) (by kernel_rfl) (fun _ _ _ h => h) (by rfl) (by intro W hSw; have h1 := hSw.1.1; clear hSw; go_simp; with_reducible rfl) hU (fun hU => ?_); (try simp only [Act.put, List.setIfInBounds_toArray, List.set_cons_zero, List.set_cons_succ]))
          (refine AnyS.take (i := 12) rfl (by kernel_rfl) (by kernel_rfl) (by kernel_rfl) (by rfl) (fun _ _ _ h => h) (by rfl) (by intro w; go_simp; with_reducible rfl) hU (fun hU => ?_); (try simp only [Act.put, List.setIfInBounds_toArray, List.set_cons_zero, List.set_cons_succ]); refine AnyS.take (i := 13) rfl (by kernel_rfl) (by kernel_rfl) (by kernel_rfl) (by rfl) (fun _ _ _ h => h) (by rfl) (by intro w; go_simp; with_reducible rfl) hU (fun hU => ?_); (try simp only [Act.put, List.setIfInBounds_toArray, List.set_cons_zero, List.set_cons_succ]))
          (refine AnyS.takeS (i := 14) rfl (by kernel_rfl) (by kernel_rfl) (by kernel_rfl) (by rfl) (by kernel_rfl) (by kernel_rfl) (fun _ _ _ h => h) (by rfl) (by intro W hSw; have h1 := hSw.1.2; clear hSw; go_simp; with_reducible rfl) hU (fun hU => ?_); (try simp only [Act.put, List.setIfInBounds_toArray, List.set_cons_zero, List.set_cons_succ]))
          (refine AnyS.take (i := 15) rfl (by kernel_rfl) (by kernel_rfl) (by kernel_rfl) (by rfl) (fun _ _ _ h => h) (by rfl) (by intro w; go_simp; with_reducible rfl) hU (fun hU => ?_); (try simp only [Act.put, List.setIfInBounds_toArray, List.set_cons_zero, List.set_cons_succ]); refine AnyS.take (i := 16) rfl (by kernel_rfl) (by kernel_rfl) (by kernel_rfl) (by rfl) (fun _ _ _ h => h) (by rfl) (by intro w; go_simp; with_reducible rfl) hU (fun hU => ?_); (try simp only [Act.put, List.setIfInBounds_toArray, List.set_cons_zero, List.set_cons_succ]))
          (refine AnyS.takeS (i := 17) rfl (by kernel_rfl) (by kernel_rfl) (by kernel_rfl) (by rfl) (by kernel_rfl) (by kernel_rfl) (fun _ _ _ h => h) (by rfl) (by intro W hSw; have h1 := hSw.2; clear hSw; go_simp; with_reducible rfl) hU (fun hU => ?_); (try simp only [Act.put, List.setIfInBounds_toArray, List.set_cons_zero, List.set_cons_succ]))
          (refine AnyS.take (i := 18) rfl (by kernel_rfl) (by kernel_rfl) (by kernel_rfl) (by rfl) (fun _ _ _ h => h) (by rfl) (by intro w; go_simp; with_reducible rfl) hU (fun hU => ?_); (try simp only [Act.put, List.setIfInBounds_toArray, List.set_cons_zero, List.set_cons_succ]); refine AnyS.take (i := 19) rfl (by kernel_rfl) (by kernel_rfl) (by kernel_rfl) (by rfl) (fun _ _ _ h => h) (by rfl) (by intro w; go_simp; with_reducible rfl) hU (fun hU => ?_); (try simp only [Act.put, List.setIfInBounds_toArray, List.set_cons_zero, List.set_cons_succ]); refine AnyS.take (i := 20) rfl (by kernel_rfl) (by kernel_rfl) (by kernel_rfl) (by rfl) (fun _ _ _ h => h) (by rfl) (by intro w; go_simp; with_reducible rfl) hU (fun hU => ?_); (try simp only [Act.put, List.setIfInBounds_toArray, List.set_cons_zero, List.set_cons_succ]); refine AnyS.take (i := 23) rfl (by kernel_rfl) (by kernel_rfl) (by kernel_rfl) (by rfl) (fun _ _ _ h => h) (by rfl) (by intro w; go_simp; with_reducible rfl) hU (fun hU => ?_); (try simp only [Act.put, List.setIfInBounds_toArray, List.set_cons_zero, List.set_cons_succ]); refine AnyS.take (i := 24) rfl (by kernel_rfl) (by kernel_rfl) (by kernel_rfl) (by rfl) (fun _ _ _ h => h) (by rfl) (by intro w; go_simp; with_reducible rfl) hU (fun hU => ?_); (try simp only [Act.put, List.setIfInBounds_toArray, List.set_cons_zero, List.set_cons_succ]))
          (refine AnyS.branch (rs := [6]) (by kernel_rfl) (List.cons_ne_nil _ _) ?_; refine AllS.cons rfl ?_ AllS.nil; intro K hK)
          go_simp
          refine HCL.out.mono ?_
          rintro e w4 ⟨rfl, a4, rfl⟩
          have hM4 := hMd.drewN a4
          refine hK.out _ _ (.inl ⟨HSM.out _ hM4.below, HSX.out _ hM4.below⟩) (fun hU => ?_)
          clear hK K hMd HCL
          (try simp only [Act.put, List.setIfInBounds_toArray, List.set_cons_zero, List.set_cons_succ])
          (refine AnyS.take (i := 7) rfl (by kernel_rfl) (by kernel_rfl) (by kernel_rfl) (by rfl) (fun _ _ _ h => h) (by rfl) (by intro w; go_simp; with_reducible rfl) hU (fun hU => ?_); (try simp only [Act.put, List.setIfInBounds_toArray, List.set_cons_zero, List.set_cons_succ]); refine AnyS.take (i := 21) rfl (by kernel_rfl) (by kernel_rfl) (by kernel_rfl) (by rfl) (fun _ _ _ h => h) (by rfl) (by intro w; go_simp; with_reducible rfl) hU (fun hU => ?_); (try simp only [Act.put, List.setIfInBounds_toArray, List.set_cons_zero, List.set_cons_succ]))
          obtain ⟨d1, f1, hM5⟩ := HN2.out _ hM4
          (refine AnyS.branch (rs := [22]) (by kernel_rfl) (List.cons_ne_nil _ _) ?_; refine AllS.cons rfl ?_ AllS.nil; intro K hK)
          go_simp
          refine hK.out _ _ (.inl ⟨HSM.out _ hM5.below, HSX.out _ hM5.below⟩) (fun hU => ?_)
          clear hK K d1 f1 hM4
          (try simp only [Act.put, List.setIfInBounds_toArray, List.set_cons_zero, List.set_cons_succ])
          (refine AnyS.take (i := 25) rfl (by kernel_rfl) (by kernel_rfl) (by kernel_rfl) (by rfl) (fun _ _ _ h => h) (by rfl) (by intro w; go_simp; with_reducible rfl) hU (fun hU => ?_); (try simp only [Act.put, List.setIfInBounds_toArray, List.set_cons_zero, List.set_cons_succ]))
          obtain ⟨d2, f2, hM6⟩ := HO2.out _ hM5
          (refine AnyS.branch (rs := [26]) (by kernel_rfl) (List.cons_ne_nil _ _) ?_; refine AllS.cons rfl ?_ AllS.nil; intro K hK)
          go_simp
          refine hK.out _ _ (.inl ⟨HSM.out _ hM6.below, HSX.out _ hM6.below⟩) (fun hU => ?_)
          clear hK K d2 f2 hM5
          (try simp only [Act.put, List.setIfInBounds_toArray, List.set_cons_zero, List.set_cons_succ])
          refine AnyS.done (by kernel_rfl) ?_ _
          clear hU
          have HM6 := Lib.hid hM6
          clear hM6
          go_wp2_with fail
          go_roundw
          case rel => exact ⟨x + 1, by omega, by go_num, HM6.out⟩
          case measure => simp [intOf] <;> omega
        · have hx' : x = t.d := by omega
          subst hx'
          rw [paM_row] at hM
          go_wp2_with fail
          go_roundw
          case rel => exact ⟨q + 1, by omega, by go_num, hM⟩
          case measure => simp [intOf] <;> omega
    · have hq' : q = S.length := by omega
      subst hq'
      rw [← HGM.out] at hM
      have hw1 : (gathM L t S num).Wf := by rw [HGM.out]; exact HPW.out _ _ _ (fun i z h => by omega) (fun i z h => by omega)
      have hm1 := hM.mach 0 rfl
      have ht := (hM.at 1 rfl).there 0 (gathM L t S num).cells.length (by simp only; rw [zero_len, Mch.cells_length hw1]; omega)
      have HI2 := Lib.hid (mach_infoT hw1)
      have H2 := Lib.hid (mach_ones (gathM L t S num))
      have hM2 := hM.setAll 1 rfl (vs := (gathM L t S num).cells) (by rw [zero_len, Mch.cells_length hw1])
      have HB := Lib.hid (hM2.at 1 rfl)
      have HM2 := Lib.hid hM2
      have HI5 : Hid ((Try.prog.info? 29).map (·.size) = some (gathM L t S num).cells.toArray.size) := HI2.out.trans (by rw [List.size_toArray])
      clear hM2
      go_wp2_with (first | ((with_reducible refine st_row ?_ 29 (.tmp 8) (.tmp 65) ?_ w.heap.size 0 (gathM L t S num).cells ?_ ?_ ht HI2.out H2.out ?_); exact rfl; exact rfl; exact rfl; exact rfl) | ((with_reducible refine ld_mach ?_ (.tmp 9) ?_ (w.heap.size + 1) 0 ?_ (gathM L t S num) hm1 hw1 ?_); exact rfl; exact rfl; exact rfl))
      exact bodyPost_ret (v := .agg (gathM L t S num).cells.toArray) (results_cell_row Try.results159 _ _ w.heap.size 29 (gathM L t S num).cells.toArray (0, 0) (.struct _) rfl HB.out Try.underlying29 rfl HI5.out) rfl ⟨rfl, HM2.out.below⟩
end Go.Proofs.Yteagecoiijhflaa

/- 'out = append(out, row...)' in a function's own memory. -/
namespace Go.Proofs.Yteagecoiijhflaa
open Go.RowKit
set_option linter.unusedVariables false
set_option linter.unusedSimpArgs false
section
variable {B : Nat} {w0 w : World} {L : List (Nat × List Value × TypeId)} {G : List (Value × TypeId × List Value)}

theorem Mm.grow2 (h : Mm B w0 w L G) (i : Nat) {v v' : Value} {E : TypeId} {xs : List Value} (hi : G[i]? = some (v, E, xs)) {news : List Value} {m : Nat} {w' : World} (hm : m = news.length)
    (hown : w'.ownsRow B E 1 v' (xs.length + m) (xs ++ news)) (hgrow : w.grownBy w' v.ownBlock) (hlies : v'.ownBlock = v.ownBlock ∨ v'.ownBlock = some w.heap.size) :
    Mm B w0 w' L (G.set i (v', E, xs ++ news)) := by
  have hv := mem_of_get hi
  have hsz := hgrow.size
  have hblock : ∀ k, k < w.heap.size → v.ownBlock ≠ some k → w'.heap[k]? = w.heap[k]? := fun k hk hne => hgrow.block k hk (Ne.symm hne)
  have hnb : ∀ k, k < w.heap.size → v.ownBlock ≠ some k → v'.ownBlock ≠ some k := fun k hk hne e => by
    rcases hlies with h' | h'
    · rw [h'] at e; exact hne e
    · rw [h'] at e; injection e with e; omega
  have hsym : ∀ x y : Value × TypeId × List Value, (∀ b, x.1.ownBlock = some b → y.1.ownBlock ≠ some b) → ∀ b, y.1.ownBlock = some b → x.1.ownBlock ≠ some b := fun x y h b e e' => h b e' e
  refine ⟨?_, by have := h.size; omega, fun x hx => ⟨(h.blk x hx).1, (hblock _ (h.blk x hx).2.lt (h.sep _ hv x hx)).trans (h.blk x hx).2⟩, h.dist, fun x hx => ?_, fun x hx y hy => ?_, ?_⟩
  · refine ⟨hgrow.os.trans h.below.os, hgrow.tape.trans h.below.tape, hgrow.output.trans h.below.output, by have := h.below.size; omega, fun k hk => ?_⟩
    have hkw : k < w.heap.size := by have := h.size; omega
    exact (hblock k hkw (fun e => by have := (World.ownsRow.lt (h.own _ hv) k e).1; omega)).trans (h.below.block k hk)
  · rcases mem_set_of hx with rfl | ⟨j, hj, hx⟩
    · have : (xs ++ news).length = xs.length + m := by rw [List.length_append, hm]
      simp only [this]
      exact hown
    · have ho := h.own x (mem_of_get hx)
      refine ⟨ho.1, ?_⟩
      rcases ho.2 with hn | ⟨g', cap', cur, hv', h1, h2, rest⟩
      · exact .inl hn
      · have hlt := h.ownlt (mem_of_get hx) (by rw [hv']; rfl : x.1.ownBlock = some g')
        exact .inr ⟨g', cap', cur, hv', h1, (hblock g' hlt (pairwise_get hsym h.gdist hx hi hj g' (by rw [hv']; rfl))).trans h2, rest⟩
  · rcases mem_set_of hx with rfl | ⟨j, hj, hx⟩
    · exact hnb _ (h.blk y hy).2.lt (h.sep _ hv y hy)
    · exact h.sep x (mem_of_get hx) y hy
  · rw [List.pairwise_iff_getElem]
    intro a b ha' hb' hab c e
    simp only [List.getElem_set] at e ⊢
    simp only [List.length_set] at ha' hb'
    by_cases e1 : i = a
    · subst e1
      simp only [if_true] at e
      rw [if_neg (by omega)]
      intro e2
      have hlt := h.ownlt (List.getElem_mem hb') e2
      exact hnb c hlt (pairwise_get hsym h.gdist (List.getElem?_eq_getElem hb') hi (by omega) c e2) e
    · rw [if_neg e1] at e
      by_cases e2 : i = b
      · subst e2
        simp only [if_true]
        have hlt := h.ownlt (List.getElem_mem ha') e
        exact hnb c hlt (pairwise_get hsym h.gdist (List.getElem?_eq_getElem ha') hi (by omega) c e)
      · rw [if_neg e2]
        exact (List.pairwise_iff_getElem.1 h.gdist) a b ha' hb' hab c e

/-- 'out = append(out, row...)' to the slice number i; the row is somebody's own -/
theorem Mm.appendRow {P : Program} {ops : Array Oper} {rest : List Oper} {o : Oper} {a : Act} {Q : Exit → Act → World → Prop} (hgd : o.guard = none) (s x : Operand) (t : TypeId)
    (ho : o.op = .call { callee := .builtin .append, args := #[s, x], argTypes := #[t, t] })
    (h : Mm B w0 w L G) (i : Nat) {v : Value} {E : TypeId} {xs : List Value} (hi : G[i]? = some (v, E, xs)) {i0 : TypeInfo} {z : Value} {bytes : Nat} (ht : P.underlying t = some (.slice E)) (hI : P.info? E = some i0) (hz : i0.zero = some z)
    (hsize : i0.size = 1) (hby : i0.bytes = bytes) (hzs : z.cells.size = 1) (hs : a.eval s = v) {u : Value} (hx : a.eval x = u) {B2 n : Nat} {news : List Value} (hn : n = news.length) (hu : w.ownsRow B2 E 1 u n news) (h1 : ∀ y ∈ news, y.oneCell' = true)
    (hlen : xs.length ≤ 1000000) (hlen2 : news.length ≤ 1000000) (hbytes : bytes ≤ 1000)
    (hk : ∀ v' w', Mm B w0 w' L (G.set i (v', E, xs ++ news)) → wpList P ops Q rest (a.put o.dst v') w') :
    wpList P ops Q (o :: rest) a w := by
  subst hn
  have hov := h.own _ (mem_of_get hi)
  simp only at hov
  rcases id hu.2 with ⟨rfl, h0⟩ | ⟨g, cap, cur, rfl, -⟩
  · have hnil : news = [] := List.eq_nil_of_length_eq_zero (by omega)
    subst hnil
    refine wpList_append_own_none hgd s x t ho B E i0 1 ht hI v xs.length xs hs hov hx ?_
    refine hk v w ?_
    rw [List.append_nil]
    have : G.set i (v, E, xs) = G := by
      apply List.ext_getElem?
      intro j
      rw [List.getElem?_set]
      split
      · rename_i e; subst e
        split
        · rw [hi]
        · rename_i hc; rw [List.getElem?_eq_none (by omega)]
      · rfl
    rw [this]; exact h
  · refine wpList_append_own_at w hgd s x t ho B E i0 z 1 bytes ht hI hz hsize hby hzs (by decide) v xs.length xs hs hov ⟨g, 0, none⟩ news.length cap news hx (by omega) (fun j y hj => ?_) h1 (by unfold maxLen; omega) ?_ h.size (fun v' w' a1 a2 _ a4 => hk v' w' (h.grow2 i hi rfl a1 a2 a4))
    · exact World.ownsRow.cells hu (g := g) rfl j y hj
    · calc (xs.length + news.length) * bytes ≤ 2000000 * 1000 := Nat.mul_le_mul (by omega) hbytes
        _ ≤ _ := by omega
end
end Go.Proofs.Yteagecoiijhflaa

/- Cycles of letters and returns, plain. -/
namespace Go.Proofs.Yteagecoiijhflaa
open Go.RowKit
set_option linter.unusedVariables false

section
variable {m : Mch} (hok : m.Ok) (hwf : m.Wf)
include hok hwf
omit hok hwf in
end
end Go.Proofs.Yteagecoiijhflaa

/- The search for an order, plain. -/
namespace Go.Proofs.Yteagecoiijhflaa
open Go.RowKit
set_option linter.unusedVariables false
set_option linter.unusedSimpArgs false

end Go.Proofs.Yteagecoiijhflaa

/- Greatest common divisors and least common multiples of both sides. -/
namespace Go.Proofs.Yteagecoiijhflaa
open Go.RowKit
set_option linter.unusedVariables false
set_option linter.unusedSimpArgs false

end Go.Proofs.Yteagecoiijhflaa

/- The reference's copy of a row. -/
namespace Go.Proofs.Yteagecoiijhflaa
open Go.RowKit
set_option linter.unusedVariables false
set_option linter.unusedSimpArgs false

set_option maxRecDepth 100000 in
theorem l01Own_any (v : Value) (xs : List Int) (hx : xs.length ≤ 1000000) (B2 : Nat) (w : World) (hO : OwnI w B2 v xs) :
    Calls Try.prog 71 #[v] w fun e w' => ∃ v', e = .returned v' ∧ Below w.heap.size w w' ∧ OwnI w' w.heap.size v' xs := by
  obtain ⟨i0, hi, hz0, hz1, hz2⟩ := info_parts Try.info2
  have hM0 := (Mm.start w).newOwn #[] 2 0 rfl (by omega)
  have HO := Lib.hid (hO.below ((Below.refl _ w).alloc (Nat.le_refl _) (.cells #[] 2)))
  obtain ⟨a, c, rfl, -⟩ := hO.form
  have hxl : (i64s xs).length ≤ 1000000 := by simpa [i64s] using hx
  clear hO
  go_enter Try.func71, Try.ntmps71
  go_wp2_with (at_builtin; refine Mm.appendRow rfl (.tmp 3) (.tmp 4) 26 rfl hM0 0 rfl Try.underlying26 hi hz0 hz1 hz2 rfl rfl rfl (n := xs.length) (by simp [i64s]) HO.out (fun y hy => by obtain ⟨x, -, rfl⟩ := List.mem_map.1 hy; rfl) (by simp) hxl (by omega) ?_)
  intro v' w3 hM3
  have HM3 : Hid (Mm w.heap.size w w3 [] [(v', 2, i64s xs)]) := by show Mm _ _ _ _ _; simpa using hM3
  clear hM0 hM3 HO
  go_wp2_with fail
  go_ret
  exact ⟨_, rfl, HM3.out.below, OwnI.of_row (HM3.out.own _ (List.mem_cons_self ..))⟩
end Go.Proofs.Yteagecoiijhflaa

/- Cycles of letters and their returns: the walks. -/
namespace Go.Proofs.Yteagecoiijhflaa
open Go.RowKit
set_option linter.unusedVariables false
set_option linter.unusedSimpArgs false

end Go.Proofs.Yteagecoiijhflaa

/- ReturnOf of the program. -/
namespace Go.Proofs.Yteagecoiijhflaa
open Go.RowKit
set_option linter.unusedVariables false
set_option linter.unusedSimpArgs false

theorem slII_one {w : World} {a : Option Addr} {g : Wd} {c : Nat} (hI : IntsAt w a g) {w1 : World} (hb : Below w.heap.size w w1) (T : TypeId) :
    SlII (w1.alloc (.cells #[.slice a g.length c] T)) (.slice (some ⟨w1.heap.size, 0, none⟩) 1 1) [g] := by
  refine ⟨_, _, rfl, fun i hi => ?_⟩
  have : i = 0 := by simpa using hi
  subst this
  refine ⟨_, _, rfl, a, c, ?_, ?_⟩
  · have hM := ((Mm.start w1).alloc #[.slice a g.length c] T).at 0 rfl
    exact hM.cell' rfl
  · exact (hI.keep hb).keep ((Below.refl _ _).alloc (Nat.le_refl _) _)

end Go.Proofs.Yteagecoiijhflaa

/- The reference's turn: a machine, its inverse, its classes, its trivial states. -/
namespace Go.Proofs.Yteagecoiijhflaa
open Go.RowKit
set_option linter.unusedVariables false
set_option linter.unusedSimpArgs false

end Go.Proofs.Yteagecoiijhflaa

/- Cycles and returns of the reference. -/
namespace Go.Proofs.Yteagecoiijhflaa
open Go.RowKit
set_option linter.unusedVariables false
set_option linter.unusedSimpArgs false

end Go.Proofs.Yteagecoiijhflaa

/- Returns of the reference. -/
namespace Go.Proofs.Yteagecoiijhflaa
open Go.RowKit
set_option linter.unusedVariables false
set_option linter.unusedSimpArgs false

end Go.Proofs.Yteagecoiijhflaa

/- ReturnOf of the reference. -/
namespace Go.Proofs.Yteagecoiijhflaa
open Go.RowKit
set_option linter.unusedVariables false
set_option linter.unusedSimpArgs false

end Go.Proofs.Yteagecoiijhflaa

/- What the walks of the search for an order share. -/
namespace Go.Proofs.Yteagecoiijhflaa
open Go.RowKit
set_option linter.unusedVariables false
set_option linter.unusedSimpArgs false

theorem blk_own {w : World} {B b : Nat} {cs : List Value} {T : TypeId} (hB : B ≤ b) (h : Blk w b cs T) (n : Nat) (hn : n = cs.length) (hm : n ≤ 2000000) : w.ownsRow B T 1 (.slice (some ⟨b, 0, none⟩) n n) n cs := by
  subst hn
  refine ⟨by simp, .inr ⟨b, cs.length, cs.toArray, rfl, hB, h, ?_⟩⟩
  simp [maxLen]; omega
section
variable {B : Nat} {w0 w : World} {L : List (Nat × List Value × TypeId)} {G : List (Value × TypeId × List Value)}
/-- as Mm.appendRow, at a step of a region in drawn order -/
theorem Mm.stepRow {P : Program} {ops : Array Oper} {o : Oper} {a : Act} {K : Act → World → Prop} {Q : Exit → Act → World → Prop} {F : Prop} (hgd : o.guard = none) (s x : Operand) (t : TypeId)
    (ho : o.op = .call { callee := .builtin .append, args := #[s, x], argTypes := #[t, t] })
    (h : Mm B w0 w L G) (i : Nat) {v : Value} {E : TypeId} {xs : List Value} (hi : G[i]? = some (v, E, xs)) {i0 : TypeInfo} {z : Value} {bytes : Nat} (ht : P.underlying t = some (.slice E)) (hI : P.info? E = some i0) (hz : i0.zero = some z)
    (hsize : i0.size = 1) (hby : i0.bytes = bytes) (hzs : z.cells.size = 1) (hs : a.eval s = v) {u : Value} (hx : a.eval x = u) {B2 n : Nat} {news : List Value} (hn : n = news.length) (hu : w.ownsRow B2 E 1 u n news) (h1 : ∀ y ∈ news, y.oneCell' = true)
    (hlen : xs.length ≤ 1000000) (hlen2 : news.length ≤ 1000000) (hbytes : bytes ≤ 1000)
    (hk : ∀ v' w', Mm B w0 w' L (G.set i (v', E, xs ++ news)) → K (a.put o.dst v') w') :
    if Region.wanted o (yielded ops a.tmps) = true then Oper.wp P o a w K Q else F := by
  have hw : Region.wanted o (yielded ops a.tmps) = true := by simp [Region.wanted, hgd]
  rw [if_pos hw]
  subst hn
  have hov := h.own _ (mem_of_get hi)
  simp only at hov
  rcases id hu.2 with ⟨rfl, h0⟩ | ⟨g, cap, cur, rfl, -⟩
  · have hnil : news = [] := List.eq_nil_of_length_eq_zero (by omega)
    subst hnil
    have hrun := run_append_owned_none (P := P) (w := w) B t o.type E i0 1 ht hI v xs.length xs hov
    unfold Oper.wp
    simp [execOp, ho, resolve, invoke, builtin, hs, hx, hrun, Result.andThen]
    refine hk v w ?_
    rw [List.append_nil]
    have : G.set i (v, E, xs) = G := by
      apply List.ext_getElem?
      intro j
      rw [List.getElem?_set]
      split
      · rename_i e; subst e
        split
        · rw [hi]
        · rename_i hc; rw [List.getElem?_eq_none (by omega)]
      · rfl
    rw [this]; exact h
  · obtain ⟨v', w', hr, a1, a2, _, a4⟩ := run_append_own_at (P := P) w B t o.type E i0 z 1 bytes ht hI hz hsize hby hzs (by decide) v xs.length xs hov ⟨g, 0, none⟩ news.length cap news (by omega) (fun j y hj => World.ownsRow.cells hu (g := g) rfl j y hj) h1 (by unfold maxLen; omega)
      (by calc (xs.length + news.length) * bytes ≤ 2000000 * 1000 := Nat.mul_le_mul (by omega) hbytes
           _ ≤ _ := by omega) h.size
    unfold Oper.wp execOp
    simp only [ho, resolve, invoke, builtin, Sem.run_bind, Sem.run_pure, Result.andThen_ok, List.map_toArray, List.map_cons, List.map_nil, hs, hx, hr]
    exact hk v' w' (h.grow2 i hi rfl a1 a2 a4)
end

/-- one block more, if so -/
def ext (f : Bool) (x : Nat × List Value × TypeId) (L : List (Nat × List Value × TypeId)) : List (Nat × List Value × TypeId) := if f = true then x :: L else L
theorem ext_swap (f : Bool) (x y : Nat × List Value × TypeId) (R : List (Nat × List Value × TypeId)) : (y :: ext f x R).Perm (ext f x (y :: R)) := by
  cases f
  · exact .refl _
  · exact .swap ..
theorem ext_mem {f : Bool} {x y : Nat × List Value × TypeId} {L : List (Nat × List Value × TypeId)} (h : y ∈ L) : y ∈ ext f x L := by
  cases f
  · exact h
  · exact List.mem_cons_of_mem _ h
theorem AnyS.invA {P : Program} {ops : Array Oper} {Q : Exit → Act → World → Prop} {md : Region.Mode} {S : World → Prop} {L : List Nat} (a0 : Act) (Inv : Act → Array Bool → Act → World → Prop) (hS : ∀ l a w, Inv a0 l a w → S w)
    (h : ∀ l a w, Inv a0 l a w → (∀ n, leftN ops.size l ≤ n → AnyS P md ops Q S L n l a w) ∨
      (Region.ready md ops l ≠ [] ∧ ∀ i ∈ Region.ready md ops l, wpOp P ops Q i (fun a' w' => Inv a0 (l.setIfInBounds i true) a' w') a w))
    (n : Nat) (l : Array Bool) (w : World) (hi : Inv a0 l a0 w) (hn : leftN ops.size l ≤ n) : AnyS P md ops Q S L n l a0 w := AnyS.inv (Inv a0) hS h n l a0 w hi hn

theorem Mm.intsAt {B : Nat} {w0 w : World} {L : List (Nat × List Value × TypeId)} {G : List (Value × TypeId × List Value)} (h : Mm B w0 w L G) (i : Nat) {a : Option Addr} {n c : Nat} {xs : List Int} (hi : G[i]? = some (.slice a n c, 2, i64s xs)) : IntsAt w a xs := by
  have ho := h.own _ (mem_of_get hi)
  simp only at ho
  obtain ⟨a', c', e, hI⟩ := (OwnI.of_row ho).form
  have : a = a' := by injection e
  rw [this]; exact hI
theorem set_self (a : Array Value) (i : Nat) : a.setIfInBounds i (a.getD i undef) = a := by
  apply Array.ext_getElem?
  intro j
  rw [Array.getElem?_setIfInBounds]
  split
  · rename_i e; subst e
    split
    · rename_i h; simp [Array.getD, h]
    · rename_i h; rw [Array.getElem?_eq_none (by omega)]
  · rfl
end Go.Proofs.Yteagecoiijhflaa

/- All words of so many numbers; slices.Clone; groupWords of the program. -/
namespace Go.Proofs.Yteagecoiijhflaa
open Go.RowKit
set_option linter.unusedVariables false
set_option linter.unusedSimpArgs false

set_option maxRecDepth 100000 in
theorem clone_any (v : Value) (xs : List Int) (hx : xs.length ≤ 1000000) (B2 : Nat) (w : World) (hO : OwnI w B2 v xs) :
    Calls Try.prog 111 #[v] w fun e w' => ∃ v', e = .returned v' ∧ Below w.heap.size w w' ∧ OwnI w' w.heap.size v' xs := by
  obtain ⟨i0, hi, hz0, hz1, hz2⟩ := info_parts Try.info2
  have hM0 := (Mm.start w).newOwn #[] 2 0 rfl (by omega)
  have HO := Lib.hid (hO.below ((Below.refl _ w).alloc (Nat.le_refl _) (.cells #[] 2)))
  have hxl : (i64s xs).length ≤ 1000000 := by simpa [i64s] using hx
  have q26 : ∀ (w : World) (a : Option Addr) (n c : Nat), (binOp .eql 26 (.slice a n c) (.slice none 0 0)).run Try.prog w = .ok (.bool a.isNone) w := fun w a n c => Lib.run_eql_slice_nil w _ _ a n c 0 0 Try.underlying26
  rcases id hO.2 with ⟨rfl, h0⟩ | ⟨g, cap, cur, rfl, -⟩
  · have hxs : xs = [] := List.eq_nil_of_length_eq_zero h0
    subst hxs
    clear hM0 HO hxl hO h0
    go_enter Try.func111, Try.ntmps111
    go_wp2_with fail
    go_ret
    exact ⟨_, rfl, Below.refl _ _, OwnI.nil _ _⟩
  · clear hO
    go_enter Try.func111, Try.ntmps111
    go_wp2_with (at_builtin; refine Mm.appendRow rfl (.tmp 5) (.tmp 6) 26 rfl hM0 0 rfl Try.underlying26 hi hz0 hz1 hz2 rfl rfl rfl (n := xs.length) (by simp [i64s]) HO.out (fun y hy => by obtain ⟨x, -, rfl⟩ := List.mem_map.1 hy; rfl) (by simp) hxl (by omega) ?_)
    intro v' w3 hM3
    have HM3 : Hid (Mm w.heap.size w w3 [] [(v', 2, i64s xs)]) := by show Mm _ _ _ _ _; simpa using hM3
    clear hM0 hM3 HO
    go_wp2_with fail
    go_ret
    exact ⟨_, rfl, HM3.out.below, OwnI.of_row (HM3.out.own _ (List.mem_cons_self ..))⟩
end Go.Proofs.Yteagecoiijhflaa
