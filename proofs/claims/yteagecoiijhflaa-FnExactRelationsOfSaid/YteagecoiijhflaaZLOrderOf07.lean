import Derived.Test.YteagecoiijhflaaZLOrderOf01
import Derived.Test.YteagecoiijhflaaZLOrderOf04
import Derived.Deep.RegionWith
import Derived.Test.YteagecoiijhflaaZLOrderOf02
import Derived.Test.YteagecoiijhflaaZLOrderOf05
import Derived.Test.YteagecoiijhflaaZLOrderOf03
import Derived.StillTailTactics
/- Words of a level and their numbers: no program in sight. -/
namespace Go.Proofs.Yteagecoiijhflaa
open Go.RowKit
set_option linter.unusedVariables false
set_option linter.unusedSimpArgs false

/-- the n digits of k, base d -/
def digs (d : Nat) : Nat → Nat → List Nat
  | 0, _ => []
  | n + 1, k => (k / d ^ n % d) :: digs d n k
theorem digs_length (d : Nat) : ∀ n k, (digs d n k).length = n
  | 0, _ => rfl
  | n + 1, k => by simp [digs, digs_length d n k]
theorem digs_lt {d : Nat} (hd : 0 < d) : ∀ n k, ∀ x ∈ digs d n k, x < d
  | 0, _, x, h => by simp [digs] at h
  | n + 1, k, x, h => by
    simp only [digs, List.mem_cons] at h
    rcases h with rfl | h
    · exact Nat.mod_lt _ hd
    · exact digs_lt hd n k x h
theorem digs_snoc (d : Nat) : ∀ n k, digs d (n + 1) k = digs d n (k / d) ++ [k % d]
  | 0, k => by simp [digs]
  | n + 1, k => by
    rw [digs, digs_snoc d n k, digs, List.cons_append]
    congr 2
    rw [Nat.div_div_eq_div_mul, Nat.pow_succ, Nat.mul_comm]
def numL (d : Nat) (l : List Nat) : Nat := l.foldl (fun a x => a * d + x) 0
theorem numL_snoc (d : Nat) (l : List Nat) (x : Nat) : numL d (l ++ [x]) = numL d l * d + x := by simp [numL]
theorem numL_digs (d : Nat) : ∀ n k, numL d (digs d n k) = k % d ^ n
  | 0, k => by simp [digs, numL, Nat.mod_one]
  | n + 1, k => by
    rw [digs_snoc, numL_snoc, numL_digs d n, Nat.pow_succ, Nat.mul_comm (d ^ n) d, Nat.mod_mul]
    rw [Nat.mul_comm]; omega
theorem numL_lt {d : Nat} : ∀ (l : List Nat), (∀ x ∈ l, x < d) → numL d l < d ^ l.length := by
  intro l
  induction hn : l.length generalizing l with
  | zero => intro _; have : l = [] := List.length_eq_zero_iff.1 hn; subst this; simp [numL]
  | succ n ih =>
    intro h
    obtain ⟨r, x, rfl⟩ : ∃ r x, l = r ++ [x] := ⟨l.dropLast, l.getLast (by intro e; simp [e] at hn), (List.dropLast_concat_getLast _).symm⟩
    have hr : r.length = n := by simpa using hn
    have h1 := ih r hr (fun y hy => h y (by simp [hy]))
    have h2 := h x (by simp)
    rw [numL_snoc, Nat.pow_succ]
    have : numL d r + 1 ≤ d ^ n := h1
    calc numL d r * d + x < numL d r * d + d := by omega
      _ = (numL d r + 1) * d := by rw [Nat.add_mul, Nat.one_mul]
      _ ≤ d ^ n * d := Nat.mul_le_mul_right d this

theorem txt_size (l : List Nat) : (txt l).size = l.length := by simp [txt, strOfNums_size]
theorem txt_data (l : List Nat) : (txt l).data.toList = l.map fun x => UInt8.ofNat (48 + x) := by
  simp only [txt, strOfNums_data, List.map_map]
  apply List.map_congr_left
  intro x _
  simp only [Function.comp, Int.toNat_natCast]
theorem lts_txt {l : List Nat} (h : ∀ x ∈ l, x ≤ 200) : lts (txt l) = l := by
  simp only [lts, txt_data, List.map_map]
  conv => rhs; rw [← List.map_id l]
  apply List.map_congr_left
  intro x hx
  have := h x hx
  simp only [Function.comp, id, UInt8.toNat_ofNat']
  omega
theorem letsP_txt {L : Int} {l : List Nat} (h : ∀ x ∈ l, (x : Int) < L) (hl : ∀ x ∈ l, x ≤ 200) : letsP L (txt l) = true := by
  simp only [letsP, letsUpto, List.all_eq_true, List.mem_range]
  intro k hk
  rw [getElem!_pos (txt l) k hk]
  have hk' : k < l.length := by rwa [txt_size] at hk
  have e : (txt l)[k] = UInt8.ofNat (48 + l[k]) := by
    have h1 : (txt l).data.toList[k]? = some (UInt8.ofNat (48 + l[k])) := by rw [txt_data]; simp [hk']
    have h2 : (txt l).data.toList[k]? = some (txt l)[k] := by
      rw [List.getElem?_eq_getElem (by simpa using hk)]; rfl
    exact Option.some.inj (h2.symm.trans h1)
  have hx := h l[k] (List.getElem_mem hk')
  have hx2 := hl l[k] (List.getElem_mem hk')
  rw [e, UInt8.toNat_ofNat']
  simp only [letB, Bool.and_eq_true, decide_eq_true_eq]
  omega

/-- the code of a machine and a level -/
def levC (m : Mch) (n : Int) : Int := if machP m then (if inR n 0 (7 - m.L) then 0 else 2) else 1
theorem levC_range (m : Mch) (n : Int) : 0 ≤ levC m n ∧ levC m n ≤ 2 := by unfold levC; split <;> (try split) <;> omega
theorem levC_zero {m : Mch} {n : Int} (h : levC m n = 0) : m.Ok ∧ ∃ j : Nat, n = j ∧ j + m.l ≤ 7 ∧ j ≤ 5 := by
  unfold levC at h
  split at h
  · rename_i h1
    split at h
    · rename_i h2
      have hok := mach_ok h1
      simp only [inR, Bool.and_eq_true, decide_eq_true_eq] at h2
      have := hok.L_eq
      have := hok.l_ge
      exact ⟨hok, n.toNat, by omega, by omega, by omega⟩
    · omega
  · omega
theorem pow_level {d j : Nat} (h2 : 2 ≤ d) (h3 : d ≤ 3) (hj : j + d ≤ 7) : d ^ j ≤ 81 := by
  have : d = 2 ∨ d = 3 := by omega
  rcases this with rfl | rfl
  · have : j = 0 ∨ j = 1 ∨ j = 2 ∨ j = 3 ∨ j = 4 ∨ j = 5 := by omega
    rcases this with rfl | rfl | rfl | rfl | rfl | rfl <;> decide
  · have : j = 0 ∨ j = 1 ∨ j = 2 ∨ j = 3 ∨ j = 4 := by omega
    rcases this with rfl | rfl | rfl | rfl | rfl <;> decide
/-- where word k of a level leads a state, and what it becomes -/
def wsec (m : Mch) (n q k : Nat) : Nat := (runL m q (digs m.l n k)).2
def wimg (m : Mch) (n q k : Nat) : List Nat := (runL m q (digs m.l n k)).1
theorem digs_ok {m : Mch} (hok : m.Ok) (n k : Nat) : ∀ x ∈ digs m.l n k, x < m.l := digs_lt (by have := hok.l_ge; omega) n k
theorem wsec_lt {m : Mch} (hok : m.Ok) (hwf : m.Wf) {q : Nat} (hq : q < m.s) (n k : Nat) : wsec m n q k < m.s := runL_state hok hwf _ q hq (digs_ok hok n k)
theorem wimg_lt {m : Mch} (hok : m.Ok) (hwf : m.Wf) {q : Nat} (hq : q < m.s) (n k : Nat) : ∀ x ∈ wimg m n q k, x < m.l := runL_letters hok hwf _ q hq (digs_ok hok n k)
theorem wimg_length (m : Mch) (n q k : Nat) : (wimg m n q k).length = n := by rw [wimg, runL_length, digs_length]
theorem word_lets {m : Mch} (hok : m.Ok) (n k : Nat) : letsP m.L (txt (digs m.l n k)) = true := by
  have h3 := hok.l_le
  exact letsP_txt (fun x hx => by have := digs_ok hok n k x hx; have := hok.L_eq; omega) (fun x hx => by have := digs_ok hok n k x hx; omega)
theorem word_lts {m : Mch} (hok : m.Ok) (n k : Nat) : lts (txt (digs m.l n k)) = digs m.l n k := by
  have h3 := hok.l_le
  exact lts_txt (fun x hx => by have := digs_ok hok n k x hx; omega)
end Go.Proofs.Yteagecoiijhflaa

/- lead: what a state makes of a word, and its section there. -/
namespace Go.Proofs.Yteagecoiijhflaa
open Go.RowKit
set_option linter.unusedVariables false
set_option linter.unusedSimpArgs false

/-- 'make([]byte, n)' -/
theorem mk_u8 (n : Nat) (hn : n ≤ 100000) (u : World) : (Instr.makeSlice 106 (.int .i64 (n : Int)) (.int .i64 (n : Int))).run Try.prog u =
    .ok (.slice (some ⟨u.heap.size, 0, none⟩) n n) (u.alloc (.cells (madeCells #[.int .u8 0] n) 5)) := by
  obtain ⟨i0, hi, hz0, hz1, hz2⟩ := info_parts Try.info5
  have h := run_make (P := Try.prog) u 106 5 i0 (.int .u8 0) Try.underlying106 hi hz0 .i64 .i64 (n : Int) (n : Int) (by omega) (Int.le_refl _) (by rw [hz2]; omega) (by omega)
  simpa [hz1, Value.cells] using h
theorem made_u8 (n : Nat) : (madeCells #[Value.int .u8 0] n).toList = u8s (List.replicate n 0) := by
  have : (madeCells #[Value.int .u8 0] n).toList = (List.range n).map fun _ => Value.int .u8 0 := by
    simp only [madeCells, Array.toList_map, Array.toList_range]
    exact List.map_congr_left fun x _ => by simp [Nat.mod_one]
  rw [this, u8s, List.map_const', List.length_range, List.map_replicate]

def outsZ (m : Mch) (q : Nat) (s : ByteArray) (k : Nat) : List Int := outsP m q s k ++ List.replicate (s.size - k) 0
theorem outsZ_step {m : Mch} {q : Nat} {s : ByteArray} {k : Nat} (hk : k < s.size) {x : Nat} (hx : (s[k]).toNat - 48 = x) :
    (u8s (outsZ m q s k)).set k (.int .u8 ((48 + m.on (secP m q s k) x : Nat) : Int)) = u8s (outsZ m q s (k + 1)) := by
  have hl : (outsP m q s k).length = k := outsP_length (by omega)
  simp only [outsZ, u8s, outsP_succ hk, hx, List.map_append]
  rw [List.set_append_right _ _ (by simp [hl]), List.append_assoc]
  congr 1
  rw [show s.size - k = (s.size - (k + 1)) + 1 by omega, List.replicate_succ]
  simp [hl]

end Go.Proofs.Yteagecoiijhflaa

/- Powers, words of a level, their numbers: contracts of both sides. -/
namespace Go.Proofs.Yteagecoiijhflaa
open Go.RowKit
set_option linter.unusedVariables false
set_option linter.unusedSimpArgs false

theorem pow30 {d k : Nat} (hd : d ≤ 3) (hk : k ≤ 30) : d ^ k ≤ 205891132094649 :=
  calc d ^ k ≤ 3 ^ k := Nat.pow_le_pow_left hd k
    _ ≤ 3 ^ 30 := Nat.pow_le_pow_right (by omega) hk
    _ = 205891132094649 := by decide
theorem pow_cast (d k : Nat) : ((d ^ k : Nat) : Int) * (d : Int) = ((d ^ (k + 1) : Nat) : Int) := by rw [Nat.pow_succ]; push_cast; rfl

/-! words -/
def lowZ (d n j k : Nat) : List Int := List.replicate (n - j) 0 ++ (digs d j k).map fun x : Nat => ((48 + x : Nat) : Int)
theorem lowZ_length (d n j k : Nat) (h : j ≤ n) : (lowZ d n j k).length = n := by simp [lowZ, digs_length]; omega
theorem lowZ_step (d n j k : Nat) (h : j < n) : (u8s (lowZ d n j k)).set (n - 1 - j) (.int .u8 ((48 + k / d ^ j % d : Nat) : Int)) = u8s (lowZ d n (j + 1) k) := by
  simp only [lowZ, u8s, List.map_append, digs, List.map_cons]
  rw [show n - j = (n - (j + 1)) + 1 by omega, List.replicate_succ', List.map_append, List.append_assoc]
  rw [List.set_append_right _ _ (by simp; omega)]
  congr 1
  simp only [List.length_map, List.length_replicate, List.map_cons, List.map_nil, List.cons_append, List.nil_append]
  rw [show n - 1 - j - (n - (j + 1)) = 0 by omega, List.set_cons_zero]
theorem lowZ_all (d n k : Nat) : strOfNums (lowZ d n n k) = txt (digs d n k) := by simp [lowZ, txt]

theorem divC (a b : Nat) : ((a : Int) / (b : Int)) = ((a / b : Nat) : Int) := by simp
theorem modC (a b : Nat) : ((a : Int) % (b : Int)) = ((a % b : Nat) : Int) := by simp

theorem ret_str {a b : ByteArray} (h : a = b) : Ending.returned (.string a) = .returned (.string b) := by rw [h]
theorem txt_snoc (l : List Nat) (x : Nat) : txt (l ++ [x]) = txt l ++ strOfNums [48 + (x : Int)] := by
  have : (txt (l ++ [x])).data.toList = (txt l ++ strOfNums [48 + (x : Int)]).data.toList := by
    rw [ByteArray.data_append]
    simp only [Array.toList_append, txt_data, strOfNums_data, List.map_append, List.map_cons, List.map_nil]
    congr 2
  exact ByteArray.ext (Array.toList_inj.1 this)

end Go.Proofs.Yteagecoiijhflaa

/- Levels; numbers of words; codes of levels: contracts of both sides. -/
namespace Go.Proofs.Yteagecoiijhflaa
open Go.RowKit
set_option linter.unusedVariables false
set_option linter.unusedSimpArgs false

theorem Try.info9 : (Try.prog.info? 9).map (fun i => (i.zero, i.size, i.bytes)) = some (some (.string ⟨#[]⟩), 1, 16) := by kernel_rfl

def strs (d n k : Nat) : List Value := (List.range k).map fun i => .string (txt (digs d n i))
theorem strs_length (d n k : Nat) : (strs d n k).length = k := by simp [strs]
theorem strs_succ (d n k : Nat) : strs d n (k + 1) = strs d n k ++ [.string (txt (digs d n k))] := by simp [strs, List.range_succ]
theorem strs_get {d n k i : Nat} (h : i < k) : (strs d n k)[i]? = some (.string (txt (digs d n i))) := by simp [strs, h]

theorem numL_step {d : Nat} {s : ByteArray} {k : Nat} (hk : k < s.size) : numL d ((lts s).take (k + 1)) = numL d ((lts s).take k) * d + ((s[k]).toNat - 48) := by
  rw [lts_take_succ hk, numL_snoc]
theorem numL_bound {L : Int} {d : Nat} (hd : d ≤ 3) (hL : L = d) {s : ByteArray} (hs : letsP L s = true) (h30 : s.size ≤ 29) (k : Nat) (hk : k ≤ s.size) : numL d ((lts s).take k) ≤ 205891132094649 := by
  have h1 : ∀ x ∈ (lts s).take k, x < d := fun x hx => by
    have hx' := List.mem_of_mem_take hx
    obtain ⟨j, hj⟩ := List.mem_iff_getElem?.1 hx'
    have hlt : j < s.size := by have := (List.getElem?_eq_some_iff.1 hj).1; rwa [lts_length] at this
    rw [lts_get hlt] at hj
    have := lets_at hs hlt
    have := Option.some.inj hj
    omega
  have h2 := numL_lt _ h1
  have h3 : ((lts s).take k).length = k := by rw [List.length_take, lts_length]; omega
  rw [h3] at h2
  have := pow30 (k := k) hd (by omega)
  omega

end Go.Proofs.Yteagecoiijhflaa

/- Activities: no program in sight. -/
namespace Go.Proofs.Yteagecoiijhflaa
set_option linter.unusedVariables false
set_option linter.unusedSimpArgs false

def updN (f : Nat → Nat) (j v : Nat) : Nat → Nat := fun q => if q = j then v else f q
/-- x letters of state r done -/
def nxX (m : Mch) (now : Nat → Nat) (r : Nat) : Nat → (Nat → Nat) → Nat → Nat
  | 0, f => f
  | x + 1, f => updN (nxX m now r x f) (m.nn r x) (nxX m now r x f (m.nn r x) + now r)
/-- r states done, those that p lets in -/
def nxRow (m : Mch) (p : Nat → Bool) (now : Nat → Nat) : Nat → Nat → Nat
  | 0 => fun _ => 0
  | r + 1 => if p r then nxX m now r m.l (nxRow m p now r) else nxRow m p now r
def sumR (m : Mch) (now : Nat → Nat) : Nat → Nat
  | 0 => 0
  | r + 1 => sumR m now r + (if trivB m r then 0 else now r)
def nowS (m : Mch) (p : Nat → Bool) (q : Nat) : Nat → Nat → Nat
  | 0 => fun r => if r = q then 1 else 0
  | k + 1 => nxRow m p (nowS m p q k) m.s
/-- the states that are not trivial -/
def ntB (m : Mch) (r : Nat) : Bool := !trivB m r
def allB (r : Nat) : Bool := true
def acts (m : Mch) (q n : Nat) : List Int := (List.range n).map fun k => (sumR m (nowS m allB q k) m.s : Int)

/-- how often r goes on to t by its first x letters -/
def hits (m : Mch) (r t : Nat) : Nat → Nat
  | 0 => 0
  | x + 1 => hits m r t x + if m.nn r x = t then 1 else 0
theorem nxX_at (m : Mch) (now : Nat → Nat) (r t : Nat) (f : Nat → Nat) : ∀ x, nxX m now r x f t = f t + now r * hits m r t x
  | 0 => by simp [nxX, hits]
  | x + 1 => by
    simp only [nxX, updN, hits]
    by_cases h : t = m.nn r x
    · rw [if_pos h, if_pos h.symm, ← h, nxX_at m now r t f x, Nat.mul_add, Nat.mul_one]; omega
    · rw [if_neg h, if_neg (Ne.symm h), nxX_at m now r t f x]; simp
def inflow (m : Mch) (p : Nat → Bool) (now : Nat → Nat) (t : Nat) : Nat → Nat
  | 0 => 0
  | r + 1 => inflow m p now t r + if p r then now r * hits m r t m.l else 0
theorem nxRow_at (m : Mch) (p : Nat → Bool) (now : Nat → Nat) (t : Nat) : ∀ r, nxRow m p now r t = inflow m p now t r
  | 0 => rfl
  | r + 1 => by
    simp only [nxRow, inflow]
    split
    · rw [nxX_at, nxRow_at m p now t r]
    · rw [nxRow_at m p now t r]; rfl
theorem hits_zero {m : Mch} {r t : Nat} : ∀ x, (∀ y, y < x → m.nn r y ≠ t) → hits m r t x = 0
  | 0, _ => rfl
  | x + 1, h => by simp only [hits]; rw [hits_zero x (fun y hy => h y (by omega)), if_neg (h x (by omega))]
theorem nowS_eq {m : Mch} (hok : m.Ok) (hwf : m.Wf) (q : Nat) : ∀ k t, t < m.s → trivB m t = false → nowS m (ntB m) q k t = nowS m allB q k t
  | 0, _, _, _ => rfl
  | k + 1, t, ht, hn => by
    simp only [nowS, nxRow_at]
    have : ∀ r, r ≤ m.s → inflow m (ntB m) (nowS m (ntB m) q k) t r = inflow m allB (nowS m allB q k) t r := by
      intro r
      induction r with
      | zero => intro _; rfl
      | succ r ih =>
        intro hr
        simp only [inflow]
        rw [ih (by omega)]
        congr 1
        by_cases e : trivB m r = true
        · have hz : hits m r t m.l = 0 := hits_zero _ fun y hy h => by
            have h1 := ((trivB_iff hok hwf (by omega)).1 e).next hy
            rw [h] at h1
            rw [(trivB_iff hok hwf ht).2 h1] at hn; cases hn
          simp [ntB, allB, e, hz]
        · have e' : trivB m r = false := by simpa using e
          simp only [ntB, allB, e', Bool.not_false, if_true]
          rw [nowS_eq hok hwf q k r (by omega) e']
    exact this m.s (Nat.le_refl _)
theorem sumR_eq {m : Mch} {f g : Nat → Nat} (h : ∀ t, t < m.s → trivB m t = false → f t = g t) : ∀ r, r ≤ m.s → sumR m f r = sumR m g r
  | 0, _ => rfl
  | r + 1, hr => by
    simp only [sumR]
    rw [sumR_eq h r (by omega)]
    by_cases e : trivB m r = true
    · simp [e]
    · have e' : trivB m r = false := by simpa using e
      rw [h r (by omega) e']

/-! Bounds -/
def tot (f : Nat → Nat) : Nat → Nat
  | 0 => 0
  | r + 1 => tot f r + f r
theorem tot_upd (f : Nat → Nat) (j v : Nat) : ∀ n, j < n → tot (updN f j (f j + v)) n = tot f n + v
  | 0, h => by omega
  | n + 1, h => by
    simp only [tot]
    by_cases e : j = n
    · subst e
      have : ∀ i, i ≤ j → tot (updN f j (f j + v)) i = tot f i := by
        intro i; induction i with
        | zero => intro _; rfl
        | succ i ih => intro hi; simp only [tot]; rw [ih (by omega)]; congr 1; simp only [updN]; rw [if_neg (by omega)]
      rw [this j (Nat.le_refl _)]; simp [updN]; omega
    · rw [tot_upd f j v n (by omega)]
      have : updN f j (f j + v) n = f n := by simp only [updN]; rw [if_neg (by omega)]
      omega
theorem le_tot (f : Nat → Nat) : ∀ n t, t < n → f t ≤ tot f n
  | n + 1, t, h => by
    simp only [tot]
    by_cases e : t = n
    · subst e; omega
    · have := le_tot f n t (by omega); omega
theorem tot_nxX {m : Mch} (hok : m.Ok) (hwf : m.Wf) (now f : Nat → Nat) {r : Nat} (hr : r < m.s) : ∀ x, x ≤ m.l → tot (nxX m now r x f) m.s = tot f m.s + now r * x
  | 0, _ => by simp [nxX]
  | x + 1, hx => by
    simp only [nxX]
    rw [tot_upd _ _ _ _ (hok.nn_lt hwf hr (by omega)), tot_nxX hok hwf now f hr x (by omega), Nat.mul_add, Nat.mul_one]; omega
theorem tot_nxRow {m : Mch} (hok : m.Ok) (hwf : m.Wf) (p : Nat → Bool) (now : Nat → Nat) : ∀ r, r ≤ m.s → tot (nxRow m p now r) m.s ≤ m.l * tot now r
  | 0, _ => by
    have : ∀ n, tot (fun _ => 0) n = 0 := fun n => by induction n with | zero => rfl | succ n ih => simp [tot, ih]
    simp [nxRow, this, tot]
  | r + 1, hr => by
    have ih := tot_nxRow hok hwf p now r (by omega)
    simp only [nxRow, tot, Nat.mul_add]
    split
    · rw [tot_nxX hok hwf now _ (by omega) m.l (Nat.le_refl _), Nat.mul_comm (now r)]; omega
    · omega
theorem tot_mono (f : Nat → Nat) : ∀ n d, tot f n ≤ tot f (n + d)
  | n, 0 => Nat.le_refl _
  | n, d + 1 => by have := tot_mono f n d; rw [← Nat.add_assoc]; simp only [tot]; omega
theorem tot_nowS {m : Mch} (hok : m.Ok) (hwf : m.Wf) (p : Nat → Bool) {q : Nat} (hq : q < m.s) : ∀ k, tot (nowS m p q k) m.s ≤ 3 ^ k
  | 0 => by
    have : ∀ n, tot (fun r => if r = q then 1 else 0) n = if q < n then 1 else 0 := fun n => by
      induction n with
      | zero => rfl
      | succ n ih =>
        simp only [tot, ih]
        repeat' split
        all_goals omega
    simp only [nowS, this]; split <;> simp
  | k + 1 => by
    simp only [nowS, Nat.pow_succ]
    have h1 := tot_nxRow hok hwf p (nowS m p q k) m.s (Nat.le_refl _)
    have h2 := tot_nowS hok hwf p hq k
    have h3 := hok.l_le
    have := Nat.mul_le_mul h3 h2
    omega
theorem pow3 {k : Nat} (hk : k ≤ 21) : 3 ^ k ≤ 10460353203 := by
  have := Nat.pow_le_pow_right (n := 3) (by omega) hk
  simpa using this
theorem sumR_le (m : Mch) (now : Nat → Nat) : ∀ r, sumR m now r ≤ tot now r
  | 0 => Nat.le_refl _
  | r + 1 => by have := sumR_le m now r; simp only [sumR, tot]; split <;> omega
end Go.Proofs.Yteagecoiijhflaa

/- The program's rounds for trivial states: no program in sight. -/
namespace Go.Proofs.Yteagecoiijhflaa
set_option linter.unusedVariables false
set_option linter.unusedSimpArgs false

/-- the rounds: what is trivial stays; what stays keeps its letters; if nothing has turned in this round so far ('again' is false), what stays among the first j goes on to what stays -/
structure PInv (m : Mch) (tv : Nat → Bool) (again : Bool) (j : Nat) : Prop where
  keep : ∀ q, q < m.s → Triv m q → tv q = true
  outs : ∀ q, q < m.s → tv q = true → ∀ x, x < m.l → m.on q x = x
  none : ∀ q, m.s ≤ q → tv q = false
  still : again = false → ∀ q, q < j → q < m.s → tv q = true → ∀ x, x < m.l → tv (m.nn q x) = true

/-- the first pass: k states done -/
def fstP (m : Mch) (k : Nat) : Nat → Bool := fun q => decide (q < k) && decide (q < m.s) && (List.range m.l).all fun x => m.on q x == x
/-- the first pass: x letters of state k done -/
def fstX (m : Mch) (k x : Nat) : Nat → Bool := upd (fstP m k) k ((List.range x).all fun y => m.on k y == y)
theorem fstX_zero (m : Mch) (k : Nat) : upd (fstP m k) k true = fstX m k 0 := by simp [fstX]
theorem fstX_succ (m : Mch) (k x : Nat) : upd (fstX m k x) k (fstX m k x k && (m.on k x == x)) = fstX m k (x + 1) := by
  funext q
  simp only [fstX, upd, List.range_succ, List.all_append]
  split <;> simp
theorem fstX_fin (m : Mch) {k : Nat} (hk : k < m.s) : fstX m k m.l = fstP m (k + 1) := by
  funext q
  simp only [fstX, upd, fstP]
  by_cases h : q = k
  · subst h; simp [hk]
  · rw [if_neg h]
    congr 2
    simp only [decide_eq_decide]; omega
theorem PInv.start (m : Mch) : PInv m (fstP m m.s) true 0 := by
  refine ⟨fun q hq ht => ?_, fun q hq ht x hx => ?_, fun q hq => ?_, fun h => by cases h⟩
  · simp only [fstP, hq, decide_true, Bool.true_and, List.all_eq_true, List.mem_range, beq_iff_eq]
    exact fun x hx => ht.out hx
  · simp only [fstP, hq, decide_true, Bool.true_and, List.all_eq_true, List.mem_range, beq_iff_eq] at ht
    exact ht x hx
  · simp only [fstP]; simp; omega
theorem PInv.begin {m : Mch} {tv : Nat → Bool} {a : Bool} {j : Nat} (h : PInv m tv a j) : PInv m tv false 0 := ⟨h.keep, h.outs, h.none, fun _ q hq => by omega⟩
/-- a state that goes on to one that is not trivial is taken out -/
theorem PInv.out {m : Mch} (hok : m.Ok) (hwf : m.Wf) {tv : Nat → Bool} {a : Bool} {j : Nat} (h : PInv m tv a j) (hj : j < m.s) {x : Nat} (hx : x < m.l) (hn : tv (m.nn j x) = false) : PInv m (upd tv j false) true (j + 1) := by
  refine ⟨fun q hq ht => ?_, fun q hq ht => ?_, fun q hq => ?_, fun e => by cases e⟩
  · simp only [upd]
    split
    · rename_i e; subst e
      have := h.keep _ (hok.nn_lt hwf hq hx) (ht.next hx)
      rw [hn] at this; cases this
    · exact h.keep q hq ht
  · simp only [upd] at ht
    split at ht
    · cases ht
    · exact h.outs q hq ht
  · simp only [upd]; split; rfl; exact h.none q hq
theorem PInv.pass {m : Mch} {tv : Nat → Bool} {a : Bool} {j : Nat} (h : PInv m tv a j) (hn : tv j = true → ∀ x, x < m.l → tv (m.nn j x) = true) : PInv m tv a (j + 1) :=
  ⟨h.keep, h.outs, h.none, fun e q hq hs ht => by
    by_cases hqj : q = j
    · subst hqj; exact hn ht
    · exact h.still e q (by omega) hs ht⟩
theorem PInv.fin {m : Mch} (hok : m.Ok) (hwf : m.Wf) {tv : Nat → Bool} (h : PInv m tv false m.s) : tv = trivB m := by
  funext q
  by_cases hq : q < m.s
  · rw [Bool.eq_iff_iff, trivB_iff hok hwf hq]
    exact ⟨fun ht => triv_of_closed hok hwf tv (fun q hq hp x hx => ⟨h.outs q hq hp x hx, h.still rfl q hq hq hp x hx⟩) q hq ht, h.keep q hq⟩
  · rw [h.none q (by omega)]
    simp [trivB, hq]
/-- how many stay -/
def cntT (n : Nat) (tv : Nat → Bool) : Nat := ((List.range n).filter tv).length
theorem cntT_upd {n : Nat} {tv : Nat → Bool} {j : Nat} (hj : j < n) (ht : tv j = true) : cntT n (upd tv j false) < cntT n tv :=
  filter_len_lt _ (fun q _ h => by simp only [upd] at h; split at h; cases h; exact h) ⟨j, by simpa using hj, ht, by simp [upd]⟩
theorem cntT_le (n : Nat) (tv : Nat → Bool) : cntT n tv ≤ n := by have := List.length_filter_le tv (List.range n); simpa [cntT] using this
end Go.Proofs.Yteagecoiijhflaa

/- The program's trivial states. -/
namespace Go.Proofs.Yteagecoiijhflaa
open Go.RowKit
set_option linter.unusedVariables false
set_option linter.unusedSimpArgs false

/-- a machine's table, for reading -/
def TabR (w : World) (T : Nat) (m : Mch) : Prop := ∃ gN cN gO cO, w.cell? ⟨T, 0, none⟩ = some (.slice (some ⟨gN, 0, none⟩) m.s cN) ∧ w.cell? ⟨T, 1, none⟩ = some (.slice (some ⟨gO, 0, none⟩) m.s cO) ∧
  (∀ q, q < m.s → ∃ g c, w.cell? ⟨gN, q, none⟩ = some (.slice (some ⟨g, 0, none⟩) m.l c) ∧ ∀ x, x < m.l → w.cell? ⟨g, x, none⟩ = some (.int .i64 (m.nn q x))) ∧
  (∀ q, q < m.s → ∃ g c, w.cell? ⟨gO, q, none⟩ = some (.slice (some ⟨g, 0, none⟩) m.l c) ∧ ∀ x, x < m.l → w.cell? ⟨g, x, none⟩ = some (.int .i64 (m.on q x)))
theorem TabR.keep {w w' : World} {T : Nat} {m : Mch} (h : TabR w T m) (hb : Below w.heap.size w w') : TabR w' T m := by
  have K : ∀ (a : Addr) (v : Value), w.cell? a = some v → w'.cell? a = some v := fun a v h => (hb.cell (World.block_lt_of_cell? w a h)).trans h
  obtain ⟨gN, cN, gO, cO, h1, h2, h3, h4⟩ := h
  refine ⟨gN, cN, gO, cO, K _ _ h1, K _ _ h2, fun q hq => ?_, fun q hq => ?_⟩
  · obtain ⟨g, c, hc, hx⟩ := h3 q hq; exact ⟨g, c, K _ _ hc, fun x h => K _ _ (hx x h)⟩
  · obtain ⟨g, c, hc, hx⟩ := h4 q hq; exact ⟨g, c, K _ _ hc, fun x h => K _ _ (hx x h)⟩
theorem own_cell {w : World} {B E : Nat} {v : Value} {rs : List Value} (h : w.ownsRow B E 1 v rs.length rs) (h0 : 0 < rs.length) : ∃ g c, v = .slice (some ⟨g, 0, none⟩) rs.length c ∧ ∀ i u, rs[i]? = some u → w.cell? ⟨g, i, none⟩ = some u := by
  obtain ⟨g, c, hv, hc⟩ := (RowV.of_own h h0).cell
  refine ⟨g, c, hv, fun i u hi => ?_⟩
  have := List.getElem?_eq_some_iff.1 hi
  obtain ⟨hlt, he⟩ := this
  rw [hc i hlt, he]
theorem rows_cell {w : World} {m : Mch} {B : Nat} {v : Value} {rs : List Value} {f : Nat → Nat → Nat} (hs : 1 ≤ m.s) (ho : w.ownsRow B 26 1 v rs.length rs) (hr : RowsV w 2 rs ((List.range m.s).map fun q => i64s ((List.range m.l).map fun x => (f q x : Int)))) :
    ∃ g c, v = .slice (some ⟨g, 0, none⟩) m.s c ∧ ∀ q, q < m.s → ∃ g' c', w.cell? ⟨g, q, none⟩ = some (.slice (some ⟨g', 0, none⟩) m.l c') ∧ ∀ x, x < m.l → w.cell? ⟨g', x, none⟩ = some (.int .i64 (f q x)) := by
  have hl : rs.length = m.s := by rw [hr.1]; simp
  obtain ⟨g, c, hv, hc⟩ := own_cell ho (by omega)
  refine ⟨g, c, by rw [hv, hl], fun q hq => ?_⟩
  have hq' : q < rs.length := by omega
  have hR := hr.2 q rs[q] (i64s ((List.range m.l).map fun x => (f q x : Int))) (List.getElem?_eq_getElem hq') (by simp [hq])
  obtain ⟨g', c', hv', hx⟩ := hR.cell
  refine ⟨g', c', ?_, fun x hx' => ?_⟩
  · rw [hc q _ (List.getElem?_eq_getElem hq'), hv']; simp [i64s]
  · rw [hx x (by simpa [i64s] using hx')]; simp [i64s]
theorem Tab.reads {B : Nat} {w : World} {T : Nat} {m : Mch} (hs : 1 ≤ m.s) (h : Tab B w T (tabN m m.s) (tabO m m.s)) : TabR w T m := by
  obtain ⟨vN, vO, rN, rO, h1, h2, h3, h4, h5, h6, h7⟩ := h
  obtain ⟨gN, cN, eN, hN⟩ := rows_cell (f := m.nn) hs h3 h6
  obtain ⟨gO, cO, eO, hO⟩ := rows_cell (f := m.on) hs h4 h7
  subst eN eO
  exact ⟨gN, cN, gO, cO, h2.cell' rfl, h2.cell' rfl, hN, hO⟩

theorem beq_cast (y x : Nat) : ((y : Int) == (x : Int)) = (y == x) := by
  rw [Bool.eq_iff_iff, beq_iff_eq, beq_iff_eq]; omega
/-- n bools -/
def bvs (n : Nat) (tv : Nat → Bool) : List Value := (List.range n).map fun q => .bool (tv q)
theorem bvs_get {n : Nat} (tv : Nat → Bool) {q : Nat} (h : q < n) : (bvs n tv)[q]? = some (.bool (tv q)) := by simp [bvs, h]
theorem bvs_set {n : Nat} (tv : Nat → Bool) {j : Nat} (b : Bool) (h : j < n) : (bvs n tv).set j (.bool b) = bvs n (upd tv j b) := by
  apply List.ext_getElem?
  intro i
  by_cases hi : i < n
  · rw [bvs_get _ hi]
    by_cases e : i = j
    · subst e; rw [List.getElem?_set_self (by simpa [bvs] using h)]; simp [upd]
    · rw [List.getElem?_set_ne (by omega), bvs_get _ hi]; simp [upd, e]
  · rw [List.getElem?_eq_none (by simp [bvs]; omega), List.getElem?_eq_none (by simp [bvs]; omega)]
theorem Try.info4 : (Try.prog.info? 4).map (fun i => (i.zero, i.size, i.bytes)) = some (some (.bool false), 1, 1) := by kernel_rfl
/-- 'make([]bool, n)' -/
theorem mk_bool (n : Nat) (hn : n ≤ 100000) (u : World) : (Instr.makeSlice 130 (.int .i64 (n : Int)) (.int .i64 (n : Int))).run Try.prog u =
    .ok (.slice (some ⟨u.heap.size, 0, none⟩) n n) (u.alloc (.cells (madeCells #[.bool false] n) 4)) := by
  obtain ⟨i0, hi, hz0, hz1, hz2⟩ := info_parts Try.info4
  have h := run_make (P := Try.prog) u 130 4 i0 (.bool false) Try.underlying130 hi hz0 .i64 .i64 (n : Int) (n : Int) (by omega) (Int.le_refl _) (by rw [hz2]; omega) (by omega)
  simpa [hz1, Value.cells] using h
theorem made_bool (n : Nat) : (madeCells #[Value.bool false] n).toList = bvs n fun _ => false := by
  simp only [madeCells, Array.toList_map, Array.toList_range, bvs]
  exact List.map_congr_left fun x _ => by simp [Nat.mod_one]

/-- the memory of the program's rounds -/
structure PW (w wr : World) (m : Mch) (T : Nat) (tv : Nat → Bool) : Prop where
  tab : TabR wr T m
  out : Blk wr w.heap.size (bvs m.s tv) 4
  var : Blk wr (w.heap.size + 1) [.slice (some ⟨w.heap.size, 0, none⟩) m.s m.s] 130
  below : Below w.heap.size w wr
theorem PW.set {w wr : World} {m : Mch} {T : Nat} {tv : Nat → Bool} (h : PW w wr m T tv) (htab : TabR w T m) {j : Nat} (hj : j < m.s) (b : Bool) : PW w (wr.setCell ⟨w.heap.size, j, none⟩ (.bool b)) m T (upd tv j b) :=
  have hb := h.below.setCell (p := ⟨w.heap.size, j, none⟩) (Nat.le_refl _) (.bool b)
  ⟨htab.keep hb, by rw [← bvs_set tv b hj]; exact h.out.setCell _ _, h.var.setOther (by simp) _, hb⟩

theorem PW.drew {w wr : World} {m : Mch} {T : Nat} {tv : Nat → Bool} (h : PW w wr m T tv) : PW w wr.drew m T tv := ⟨h.tab.keep (Below.refl _ _).drew, h.out, h.var, h.below.drew⟩

def _root_.Go.Value.isTrue : Value → Bool | .bool b => b | _ => false
/-- how many of the first n cells of a block are true -/
def trueAt (w : World) (b q : Nat) : Bool := match w.cell? ⟨b, q, none⟩ with | some v => v.isTrue | none => false
def cntW (w : World) (b n : Nat) : Nat := ((List.range n).filter fun q => trueAt w b q).length
theorem PW.cnt {w wr : World} {m : Mch} {T : Nat} {tv : Nat → Bool} (h : PW w wr m T tv) : cntW wr w.heap.size m.s = cntT m.s tv := by
  simp only [cntW, cntT]
  congr 1
  refine List.filter_congr fun q hq => ?_
  simp only [trueAt, h.out.cell' (bvs_get tv (by simpa using hq)), Value.isTrue]

theorem enters_trivial : Enters 137 := fun args w => by kernel_rfl
theorem trivial1_any (w wr : World) (m : Mch) (T : Nat) (tv : Nat → Bool) (h : PW w wr m T tv) (r : Nat) (hr : r < m.s) :
    Calls Try.prog 137 #[.int .i64 (r : Int), .pointer (some ⟨w.heap.size + 1, 0, none⟩)] wr fun e w' => e = .returned (.bool (!tv r)) ∧ w' = wr := by
  have hv : wr.cell? ⟨w.heap.size + 1, 0, none⟩ = some (.slice (some ⟨w.heap.size, 0, none⟩) m.s m.s) := h.var.cell' rfl
  have hck := h.out.cell' (bvs_get tv hr)
  have i1 : (0 : Int) ≤ (r : Int) := by omega
  have i2 : (r : Int) < (m.s : Int) := by omega
  clear h
  go_enter Try.func137, Try.ntmps137
  go_wp2
  go_ret
  exact ⟨rfl, rfl⟩

set_option maxRecDepth 100000 in
set_option maxHeartbeats 4000000 in
theorem tableTrivial_any (T : Nat) (m : Mch) (hwf : m.Wf) (hok : m.Ok) (w : World) (hT : TabR w T m) :
    Calls Try.prog 107 #[.pointer (some ⟨T, 0, none⟩)] w (fun e w' => ∃ g, e = .returned (.slice (some ⟨g, 0, none⟩) m.s m.s) ∧ Below w.heap.size w w' ∧ Blk w' g (bvs m.s (trivB m)) 4) := by
  have hs16 := hok.s_le
  have hl3 := hok.l_le
  have hmk := mk_bool m.s (by omega) w
  obtain ⟨gN, cN, gO, cO, h1, h2, h3, h4⟩ := id hT
  have H3 := Lib.hid h3
  have H4 := Lib.hid h4
  clear h3 h4
  have hTw : T < w.heap.size := World.block_lt_of_cell? w _ h1
  go_enter Try.func107, Try.ntmps107
  go_wp2
  clear hmk
  go_loopw [22] (fun i wr => ∃ k : Nat, k ≤ m.s ∧ i = .int .i64 k ∧ PW w wr m T (fstP m k)) (fun i _ => m.s - (intOf i).toNat)
  case atStart =>
    have hb1 : Below w.heap.size w (w.alloc (.cells (madeCells #[.bool false] m.s) 4)) := boxedBelow _ _ _
    have hb2 := hb1.alloc (by simp) (.cells #[.slice (some ⟨w.heap.size, 0, none⟩) m.s m.s] 130)
    have ho := (Blk.new w (madeCells #[.bool false] m.s) 4).alloc (.cells #[.slice (some ⟨w.heap.size, 0, none⟩) m.s m.s] 130)
    have hv := Blk.new (w.alloc (.cells (madeCells #[.bool false] m.s) 4)) #[.slice (some ⟨w.heap.size, 0, none⟩) m.s m.s] 130
    rw [made_bool] at ho
    rw [show (w.alloc (.cells (madeCells #[.bool false] m.s) 4)).heap.size = w.heap.size + 1 by simp] at hv
    exact ⟨0, Nat.zero_le _, rfl, hT.keep hb2, by rw [show fstP m 0 = fun _ => false from funext fun q => by simp [fstP]]; exact ho, hv, hb2⟩
  case round =>
    obtain ⟨k, hk, rfl, hP⟩ := hrel
    by_cases hlt : k < m.s
    · obtain ⟨g, cg, hcg, hrow⟩ := H4.out k hlt
      have hgw : gO < w.heap.size := World.block_lt_of_cell? w _ hcg
      have hcg' : wr.cell? ⟨gO, k, none⟩ = some (.slice (some ⟨g, 0, none⟩) m.l cg) := (hP.below.cell (p := ⟨gO, k, none⟩) hgw).trans hcg
      have hv : wr.cell? ⟨w.heap.size + 1, 0, none⟩ = some (.slice (some ⟨w.heap.size, 0, none⟩) m.s m.s) := hP.var.cell' rfl
      have hck := hP.out.cell' (bvs_get (fstP m k) hlt)
      have hfk := hP.out.free k
      have i1 : (0 : Int) ≤ (k : Int) := by omega
      have i2 : (k : Int) < (m.s : Int) := by omega
      have HROW := Lib.hid hrow
      have hP2 := hP.set hT hlt true
      rw [fstX_zero] at hP2
      clear hrow
      go_wp2
      clear hcg' hv hck hfk
      go_loopw [32] (fun i wi => ∃ x : Nat, x ≤ m.l ∧ i = .int .i64 x ∧ PW w wi m T (fstX m k x)) (fun i _ => m.l - (intOf i).toNat)
      case atStart => exact ⟨0, Nat.zero_le _, rfl, hP2⟩
      case round =>
        clear hP hP2
        obtain ⟨x, hx, rfl, hP⟩ := hrel
        by_cases hxlt : x < m.l
        · have hcx := HROW.out x hxlt
          have hgx : g < w.heap.size := World.block_lt_of_cell? w _ hcx
          rw [← hP.below.cell (p := ⟨g, x, none⟩) hgx] at hcx
          have hck := hP.out.cell' (bvs_get (fstX m k x) hlt)
          have hfk := hP.out.free k
          have hv : wr.cell? ⟨w.heap.size + 1, 0, none⟩ = some (.slice (some ⟨w.heap.size, 0, none⟩) m.s m.s) := hP.var.cell' rfl
          have HSET : Hid (∀ b, b = (fstX m k x k && (m.on k x == x)) → PW w (wr.drew.setCell ⟨w.heap.size, k, none⟩ (.bool b)) m T (fstX m k (x + 1))) := fun b hb => by
            have := hP.drew.set hT hlt b
            rw [hb, fstX_succ] at this
            rw [hb]; exact this
          have j1 : (0 : Int) ≤ (x : Int) := by omega
          have j2 : (x : Int) < (m.l : Int) := by omega
          have hy3 : m.on k x < 3 := by have := hok.on_lt hwf hlt hxlt; omega
          clear hP
          generalize m.on k x = y at *
          cases h0 : fstX m k x k
          · rw [h0] at hck HSET
            clear h0
            go_wp2
            go_still_tail 12, (by kernel_rfl)
            change wpList _ _ _ _ _ wr.drew
            have hck2 : wr.drew.cell? ⟨w.heap.size, k, none⟩ = _ := hck
            have hfk2 : wr.drew.frozen? ⟨w.heap.size, k, none⟩ = false := hfk
            have hset := Lib.hid (HSET.out false (by simp))
            clear hck hfk hv hcx HSET
            generalize wr.drew = w2 at *
            go_wp2
            go_roundw
            case rel => exact ⟨x + 1, by omega, by go_num, hset.out⟩
            case measure => simp [intOf]; omega
          · rw [h0] at hck HSET
            clear h0
            have hset := Lib.hid (HSET.out ((y : Int) == (x : Int)) (by rw [beq_cast]; simp))
            go_wp2
            go_still_tail 12, (by kernel_rfl)
            change wpList _ _ _ _ _ wr.drew
            have hck2 : wr.drew.cell? ⟨w.heap.size, k, none⟩ = _ := hck
            have hfk2 : wr.drew.frozen? ⟨w.heap.size, k, none⟩ = false := hfk
            clear hck hfk hv hcx HSET
            generalize wr.drew = w2 at *
            go_wp2
            go_roundw
            case rel => exact ⟨x + 1, by omega, by go_num, hset.out⟩
            case measure => simp [intOf]; omega
        · have hx' : x = m.l := by omega
          subst hx'
          rw [fstX_fin m hlt] at hP
          go_wp2
          go_roundw
          case rel => exact ⟨k + 1, by omega, by go_num, hP⟩
          case measure => simp [intOf]; omega
    · have hk' : k = m.s := by omega
      subst hk'
      have hI0 := Lib.hid (PInv.start m)
      go_wp2
      go_loopw [8] (fun v wi => ∃ (a : Bool) (tv : Nat → Bool), v = .bool a ∧ PW w wi m T tv ∧ Hid (PInv m tv a m.s)) (fun v wi => (if v.isTrue then 1 else 0) + cntW wi w.heap.size m.s)
      case atStart => exact ⟨true, _, rfl, hP, ⟨hI0.out.keep, hI0.out.outs, hI0.out.none, fun h => by cases h⟩⟩
      case round =>
        clear hP hI0
        obtain ⟨a, tv, rfl, hP, HI⟩ := hrel
        have hc1 : wr.cell? ⟨T, 0, none⟩ = some (.slice (some ⟨gN, 0, none⟩) m.s cN) := (hP.below.cell (p := ⟨T, 0, none⟩) hTw).trans h1
        have hv : wr.cell? ⟨w.heap.size + 1, 0, none⟩ = some (.slice (some ⟨w.heap.size, 0, none⟩) m.s m.s) := hP.var.cell' rfl
        cases a
        · have HF := Lib.hid (HI.out.fin hok hwf)
          go_wp2
          go_ret
          exact ⟨_, rfl, hP.below, by rw [← HF.out]; exact hP.out⟩
        · have HC0 := Lib.hid (hP.cnt)
          go_wp2
          obtain ⟨wo, rfl⟩ : ∃ wo : World, wo = wr := ⟨_, rfl⟩
          go_loopw [8, 57] (fun v i wi => ∃ (j : Nat) (a : Bool) (tv' : Nat → Bool), j ≤ m.s ∧ i = .int .i64 j ∧ v = .bool a ∧ PW w wi m T tv' ∧ Hid (PInv m tv' a j) ∧ Hid (cntT m.s tv' ≤ cntT m.s tv ∧ (a = true → cntT m.s tv' < cntT m.s tv))) (fun _ i _ => m.s - (intOf i).toNat)
          case atStart => exact ⟨0, false, tv, Nat.zero_le _, rfl, rfl, hP, HI.out.begin, Nat.le_refl _, fun h => by cases h⟩
          case round =>
            clear hP hc1 hv
            obtain ⟨j, a, tv', hj, rfl, rfl, hP, HJ, HC⟩ := hrel
            have hv : wr.cell? ⟨w.heap.size + 1, 0, none⟩ = some (.slice (some ⟨w.heap.size, 0, none⟩) m.s m.s) := hP.var.cell' rfl
            by_cases hjlt : j < m.s
            · obtain ⟨g, cg, hcg, hrow⟩ := H3.out j hjlt
              have hgw : gN < w.heap.size := World.block_lt_of_cell? w _ hcg
              have hcg' : wr.cell? ⟨gN, j, none⟩ = some (.slice (some ⟨g, 0, none⟩) m.l cg) := (hP.below.cell (p := ⟨gN, j, none⟩) hgw).trans hcg
              have hcj := hP.out.cell' (bvs_get tv' hjlt)
              have hfj := hP.out.free j
              have i1 : (0 : Int) ≤ (j : Int) := by omega
              have i2 : (j : Int) < (m.s : Int) := by omega
              have HROW := Lib.hid hrow
              clear hrow hcg
              cases h0 : tv' j
              · rw [h0] at hcj
                have HN : Hid (PInv m tv' a (j + 1)) := HJ.out.pass fun h => by rw [h0] at h; cases h
                clear h0 HJ
                go_wp2
                go_roundw
                case rel => exact ⟨j + 1, a, tv', by omega, by go_num, rfl, hP, HN, HC⟩
                case measure => simp [intOf]; omega
              · rw [h0] at hcj
                have hxl : (nxR m j m.l).length = m.l := by simp [nxR]
                have hcall := containsFuncI_any 137 enters_trivial #[.pointer (some ⟨w.heap.size + 1, 0, none⟩)] (some ⟨g, 0, none⟩) (nxR m j m.l) cg (by omega) (fun r => !tv' r.toNat) wr (fun w' => w' = wr) rfl
                  (fun w' h i hi => by
                    rw [hxl] at hi
                    refine ⟨g, 0, rfl, ?_⟩
                    have hx := HROW.out i hi
                    rw [h, Nat.zero_add, hP.below.cell (p := ⟨g, i, none⟩) (World.block_lt_of_cell? w _ hx), hx]
                    simp [nxR, hi])
                  (fun w' h i hi => by
                    have hi' := hi
                    rw [hxl] at hi'
                    have e : (nxR m j m.l)[i] = ((m.nn j i : Nat) : Int) := by simp [nxR]
                    rw [h, e]
                    exact trivial1_any w wr m T tv' hP (m.nn j i) (hok.nn_lt hwf hjlt hi'))
                rw [hxl] at hcall
                have hany : (nxR m j m.l).any (fun r => !tv' r.toNat) = (List.range m.l).any fun x => !tv' (m.nn j x) := by simp [nxR, List.any_map, Function.comp_def]
                rw [hany] at hcall
                clear hxl hany
                have HT1 : Hid (tv' j = true) := h0
                clear h0
                cases h1 : (List.range m.l).any fun x => !tv' (m.nn j x)
                · rw [h1] at hcall
                  have HN : Hid (PInv m tv' a (j + 1)) := HJ.out.pass fun _ x hx => by
                    have := (List.any_eq_false.1 h1) x (by simpa using hx)
                    simpa using this
                  have HCALL := Lib.hid hcall
                  clear h1 HJ hcall
                  go_wp2_with fail
                  refine HCALL.out.mono ?_
                  rintro e w' ⟨rfl, rfl⟩
                  go_wp2
                  go_roundw
                  case rel => exact ⟨j + 1, a, tv', by omega, by go_num, rfl, hP, HN, HC⟩
                  case measure => simp [intOf]; omega
                · rw [h1] at hcall
                  obtain ⟨x, hx, hxn⟩ := List.any_eq_true.1 h1
                  have hx' : x < m.l := by simpa using hx
                  have HN := Lib.hid (HJ.out.out hok hwf hjlt hx' (by simpa using hxn))
                  have HPS := Lib.hid (hP.set hT hjlt false)
                  have HD := Lib.hid (cntT_upd hjlt HT1.out)
                  have HC2 : Hid (cntT m.s (upd tv' j false) < cntT m.s tv) := by have := HD.out; have := HC.out.1; show _ < _; omega
                  have HCALL := Lib.hid hcall
                  clear h1 HJ hcall hx hxn hx' HD HC HT1
                  go_wp2_with fail
                  refine HCALL.out.mono ?_
                  rintro e w' ⟨rfl, rfl⟩
                  go_wp2
                  go_roundw
                  case rel => exact ⟨j + 1, true, _, by omega, by go_num, rfl, HPS.out, HN.out, Nat.le_of_lt HC2.out, fun _ => HC2.out⟩
                  case measure => simp [intOf]; omega
            · have hj' : j = m.s := by omega
              have HN : Hid (PInv m tv' a m.s) := hj' ▸ HJ
              have HM : Hid ((if (Value.bool a).isTrue then 1 else 0) + cntW wr w.heap.size m.s < (if (Value.bool true).isTrue then 1 else 0) + cntW wo w.heap.size m.s) := by
                show _ < _
                rw [hP.cnt, HC0.out]
                have := HC.out
                cases a
                · simp [Value.isTrue]; omega
                · simp [Value.isTrue]; have := this.2 rfl; omega
              clear hj' HJ HC
              go_wp2
              go_roundw
              case rel => exact ⟨a, tv', rfl, hP, HN⟩
              case measure => simpa using HM.out
end Go.Proofs.Yteagecoiijhflaa

/- The reference's trivial states. -/
namespace Go.Proofs.Yteagecoiijhflaa
open Go.RowKit
set_option linter.unusedVariables false
set_option linter.unusedSimpArgs false

/-- sixteen bools -/
def bls (tv : Nat → Bool) : List Value := (List.range 16).map fun q => .bool (tv q)
theorem bls_get (tv : Nat → Bool) {q : Nat} (h : q < 16) : (bls tv)[q]? = some (.bool (tv q)) := by simp [bls, h]
theorem bls_set (tv : Nat → Bool) {j : Nat} (b : Bool) (h : j < 16) : (bls tv).set j (.bool b) = bls (upd tv j b) := by
  apply List.ext_getElem?
  intro i
  by_cases hi : i < 16
  · rw [bls_get _ hi]
    by_cases e : i = j
    · subst e; rw [List.getElem?_set_self (by simpa [bls] using h)]; simp [upd]
    · rw [List.getElem?_set_ne (by omega), bls_get _ hi]; simp [upd, e]
  · rw [List.getElem?_eq_none (by simp [bls]; omega), List.getElem?_eq_none (by simp [bls]; omega)]

/-- the memory of the reference's rounds -/
structure TW (w wr : World) (m : Mch) (tv : Nat → Bool) : Prop where
  mach : MAt wr w.heap.size 0 m
  res : Blk wr (w.heap.size + 1) (bls fun _ => false) 65
  out : Blk wr (w.heap.size + 1 + 1) (bls tv) 65
  below : Below w.heap.size w wr

theorem TW.l {w wr : World} {m : Mch} {tv : Nat → Bool} (h : TW w wr m tv) (hok : m.Ok) : wr.cell? ⟨w.heap.size, 0, none⟩ = some (.int .i64 (m.l : Int)) := by rw [← hok.L_eq]; exact h.mach.l
theorem TW.s {w wr : World} {m : Mch} {tv : Nat → Bool} (h : TW w wr m tv) (hok : m.Ok) : wr.cell? ⟨w.heap.size, 1, none⟩ = some (.int .i64 (m.s : Int)) := by rw [← hok.S_eq]; exact h.mach.s
theorem TW.get {w wr : World} {m : Mch} {tv : Nat → Bool} (h : TW w wr m tv) {q : Nat} (hq : q < 16) : wr.cell? ⟨w.heap.size + 1 + 1, q, none⟩ = some (.bool (tv q)) := h.out.cell' (bls_get tv hq)
theorem TW.set {w wr : World} {m : Mch} {tv : Nat → Bool} (h : TW w wr m tv) {j : Nat} (hj : j < 16) (b : Bool) : TW w (wr.setCell ⟨w.heap.size + 1 + 1, j, none⟩ (.bool b)) m (upd tv j b) :=
  ⟨h.mach.setCell (by simp only; omega) _, h.res.setOther (by simp only; omega) _, by rw [← bls_set tv b hj]; exact h.out.setCell _ _, h.below.setCell (by simp only; omega) _⟩

set_option maxRecDepth 100000 in
set_option maxHeartbeats 4000000 in
theorem l01Trivial_any (m : Mch) (hwf : m.Wf) (hok : m.Ok) (w : World) :
    Calls Try.prog 90 #[.agg m.cells.toArray] w (Ret (.agg (bls (trivB m)).toArray) w) := by
  have hm := MAt.boxed w m 29
  have hb0 := boxedBelow w m.cells.toArray 29
  have hs16 := hok.s_le
  have hl3 := hok.l_le
  go_enter Try.func90, Try.ntmps90
  go_wp2
  go_loopw [4] (fun i wr => ∃ k : Nat, k ≤ m.s ∧ i = .int .i64 k ∧ ∃ tv, TW w wr m tv ∧ Hid ((∀ q, q < k → tv q = true) ∧ ∀ q, k ≤ q → tv q = false)) (fun i _ => m.s - (intOf i).toNat)
  case atStart =>
    refine ⟨0, Nat.zero_le _, rfl, fun _ => false, ⟨(hm.alloc (by simp) _).alloc (by simp; omega) _, ?_, ?_, (hb0.alloc (by simp) _).alloc (by simp; omega) _⟩, fun q hq => by omega, fun _ _ => rfl⟩
    · have := (Blk.new (w.alloc (.cells m.cells.toArray 29)) (bls fun _ => false).toArray 65).alloc (.cells (bls fun _ => false).toArray 65)
      rw [show (w.alloc (.cells m.cells.toArray 29)).heap.size = w.heap.size + 1 by simp] at this
      exact this
    · have := Blk.new ((w.alloc (.cells m.cells.toArray 29)).alloc (.cells (bls fun _ => false).toArray 65)) (bls fun _ => false).toArray 65
      rw [show ((w.alloc (.cells m.cells.toArray 29)).alloc (.cells (bls fun _ => false).toArray 65)).heap.size = w.heap.size + 1 + 1 by simp] at this
      exact this
  case round =>
    obtain ⟨k, hk, rfl, tv, hT, hI⟩ := hrel
    have hcs := hT.s hok
    by_cases hlt : k < m.s
    · have hck := hT.get (q := k) (by omega)
      have hfk := hT.out.free k
      have i1 : (k : Int) < 16 := by omega
      have i2 : (0 : Int) ≤ (k : Int) := by omega
      go_wp2
      go_roundw
      case rel =>
        exact ⟨k + 1, by omega, by go_num, _, hT.set (by omega) true, fun q hq => by (simp only [upd]; split; rfl; exact hI.out.1 q (by omega)), fun q hq => by (simp only [upd]; rw [if_neg (by omega)]; exact hI.out.2 q (by omega))⟩
      case measure => simp [intOf]; omega
    · have hk' : k = m.s := by omega
      subst hk'
      have hinv : TInv m tv 0 := TInv.start hI.out.1 hI.out.2
      have HI := Lib.hid hinv
      clear hinv
      go_wp2
      obtain ⟨wo, rfl⟩ : ∃ wo : World, wo = wr := ⟨_, rfl⟩
      go_loopw [5] (fun i wr => ∃ r : Nat, r ≤ m.s + 1 ∧ i = .int .i64 r ∧ ∃ tv, TW w wr m tv ∧ Hid (TInv m tv r)) (fun i _ => m.s + 1 - (intOf i).toNat)
      case atStart => exact ⟨0, Nat.zero_le _, rfl, tv, hT, HI⟩
      case round =>
        clear hT HI hcs
        obtain ⟨r, hr, rfl, tv, hT, HI⟩ := hrel
        have hcs := hT.s hok
        by_cases hrlt : r ≤ m.s
        · go_wp2
          obtain ⟨wo, rfl⟩ : ∃ wo : World, wo = wr := ⟨_, rfl⟩
          go_loopw [6] (fun i wr => ∃ j : Nat, j ≤ m.s ∧ i = .int .i64 j ∧ ∃ tv, TW w wr m tv ∧ Hid (TInv2 m tv r j)) (fun i _ => m.s - (intOf i).toNat)
          case atStart => exact ⟨0, Nat.zero_le _, rfl, tv, hT, HI.out.begin⟩
          case round =>
            clear hT HI hcs
            obtain ⟨j, hj, rfl, tv, hT, HI⟩ := hrel
            have hcs := hT.s hok
            by_cases hjlt : j < m.s
            · go_wp2
              obtain ⟨wo, rfl⟩ : ∃ wo : World, wo = wr := ⟨_, rfl⟩
              go_loopw [7] (fun i wr => ∃ x : Nat, x ≤ m.l ∧ i = .int .i64 x ∧ ∃ tv, TW w wr m tv ∧ Hid (TInv3 m tv r j x)) (fun i _ => m.l - (intOf i).toNat)
              case atStart => exact ⟨0, Nat.zero_le _, rfl, tv, hT, HI.out.begin⟩
              case round =>
                clear hT HI hcs
                obtain ⟨x, hx, rfl, tv, hT, HI⟩ := hrel
                have hcl := hT.l hok
                by_cases hxlt : x < m.l
                · have hcj := hT.get (q := j) (by omega)
                  have hfj := hT.out.free j
                  have e3 := hT.mach.oo hwf (q := j) (x := x) (by omega) (by omega)
                  have e2 := hT.mach.nn hwf (q := j) (x := x) (by omega) (by omega)
                  rw [hok.o_eq hwf hjlt hxlt] at e3
                  rw [hok.n_eq hwf hjlt hxlt] at e2
                  have hz16 : m.nn j x < 16 := by have := hok.nn_lt hwf hjlt hxlt; omega
                  have hy3 : m.on j x < 3 := by have := hok.on_lt hwf hjlt hxlt; omega
                  have hcn := hT.get hz16
                  have HSTEP : Hid (∀ b, b = (tv j && (m.on j x == x) && tv (m.nn j x)) → TInv3 m (upd tv j b) r j (x + 1)) := fun b hb => HI.out.step hok hwf hjlt hxlt hb
                  have HSET : Hid (∀ b, TW w (wr.setCell ⟨w.heap.size + 1 + 1, j, none⟩ (.bool b)) m (upd tv j b)) := fun b => hT.set (by omega) b
                  have i1 : (j : Int) < 16 := by omega
                  have i2 : (0 : Int) ≤ (j : Int) := by omega
                  have i3 : (x : Int) < 3 := by omega
                  have i4 : (0 : Int) ≤ (x : Int) := by omega
                  generalize hY : m.on j x = y at *
                  generalize hZ : m.nn j x = z at *
                  have i5 : (z : Int) < 16 := by omega
                  clear hY hZ
                  cases h0 : tv j
                  · rw [h0] at hcj HSTEP
                    clear h0
                    go_wp2
                    go_roundw
                    case rel => exact ⟨x + 1, by omega, by go_num, _, HSET.out false, HSTEP.out false (by simp)⟩
                    case measure => simp [intOf]; omega
                  · rw [h0] at hcj HSTEP
                    clear h0
                    by_cases h1 : y = x
                    · subst h1
                      cases h2 : tv z
                      · rw [h2] at hcn HSTEP
                        clear h2
                        go_wp2
                        go_roundw
                        case rel => exact ⟨y + 1, by omega, by go_num, _, HSET.out false, HSTEP.out false (by simp)⟩
                        case measure => simp [intOf]; omega
                      · rw [h2] at hcn HSTEP
                        clear h2
                        go_wp2
                        go_roundw
                        case rel => exact ⟨y + 1, by omega, by go_num, _, HSET.out true, HSTEP.out true (by simp)⟩
                        case measure => simp [intOf]; omega
                    · have h1' : (y == x) = false := by simpa using h1
                      rw [h1'] at HSTEP
                      have h1i : ((y : Int) == (x : Int)) = false := by simp; omega
                      clear h1 h1'
                      go_wp2
                      go_roundw
                      case rel => exact ⟨x + 1, by omega, by go_num, _, HSET.out false, HSTEP.out false (by simp)⟩
                      case measure => simp [intOf]; omega
                · have hx' : x = m.l := by omega
                  have HF : Hid (TInv2 m tv r (j + 1)) := (hx' ▸ HI.out).fin
                  clear hx'
                  go_wp2
                  go_roundw
                  case rel => exact ⟨j + 1, by omega, by go_num, tv, hT, HF⟩
                  case measure => simp [intOf]; omega
            · have hj' : j = m.s := by omega
              have HF : Hid (TInv m tv (r + 1)) := (hj' ▸ HI.out).fin
              clear hj'
              go_wp2
              go_roundw
              case rel => exact ⟨r + 1, by omega, by go_num, tv, hT, HF⟩
              case measure => simp [intOf]; omega
        · have HF := Lib.hid (HI.out.fin hok hwf (by omega : m.s ≤ r))
          rw [HF.out] at hT
          have hall := hT.out.all
          have hth := hT.res.there 0 (bls (trivB m)).length (by simp [bls])
          have hi : (Try.prog.info? 65).map (·.size) = some (bls (trivB m)).length := by rw [show (bls (trivB m)).length = 16 by simp [bls]]; kernel_rfl
          have HI' := Lib.hid hi
          have H1 : Hid (∀ v ∈ bls (trivB m), v.oneCell' = true) := fun v hv => by simp only [bls, List.mem_map] at hv; obtain ⟨z, _, rfl⟩ := hv; rfl
          have hres := hT.res.setAll (vs := bls (trivB m)) (by simp [bls])
          have hbb := below_setCells (b := w.heap.size + 1) (by omega) (bls (trivB m)) hT.below 0
          clear hi
          go_wp2_with (first | ((with_reducible refine ld_row ?_ 65 (.tmp 3) ?_ (w.heap.size + 1 + 1) 0 ?_ (bls (trivB m)) (.array 16 4) hall Try.underlying65 ?_ HI'.out ?_); exact rfl; exact rfl; exact rfl; exact rfl) | ((with_reducible refine st_row ?_ 65 (.tmp 2) (.tmp 61) ?_ (w.heap.size + 1) 0 (bls (trivB m)) ?_ ?_ hth HI'.out H1.out ?_); exact rfl; exact rfl; exact rfl; exact rfl))
          exact bodyPost_ret (v := .agg (bls (trivB m)).toArray) (results_cell_row Try.results90 _ _ (w.heap.size + 1) 65 (bls (trivB m)).toArray (0, 0) (.array 16 4) rfl hres Try.underlying65 rfl (HI'.out.trans (by rw [List.size_toArray]))) rfl ⟨rfl, hbb⟩
end Go.Proofs.Yteagecoiijhflaa

/- ActiveAt and its reference. -/
namespace Go.Proofs.Yteagecoiijhflaa
open Go.RowKit
set_option linter.unusedVariables false
set_option linter.unusedSimpArgs false

theorem code_zero {m : Mch} {q : Int} {s : ByteArray} (h : codeP m q s = 0) : m.Ok ∧ letsP m.L s = true ∧ s.size ≤ 40 ∧ ∃ n : Nat, q = n ∧ n < m.s := by
  simp only [codeP] at h
  split at h
  · rename_i h1
    split at h
    · rename_i h2
      simp only [Bool.and_eq_true, wordP, decide_eq_true_eq] at h1
      have hok := mach_ok h1.1
      simp only [inR, Bool.and_eq_true, decide_eq_true_eq] at h2
      have := hok.S_eq
      exact ⟨hok, h1.2.1, h1.2.2, q.toNat, by omega, by omega⟩
    · omega
  · omega
theorem codeP_range (m : Mch) (q : Int) (s : ByteArray) : 0 ≤ codeP m q s ∧ codeP m q s ≤ 2 := by
  simp only [codeP]; split <;> (try split) <;> omega
def actB (m : Mch) (q : Int) (s : ByteArray) : Bool := if codeP m q s = 0 then !trivB m (runL m q.toNat (lts s)).2 else false
theorem ret2_bi {b b' : Bool} {u u' : Int} (h : b = b') (k : u = u') : Ending.returned (.tuple #[.bool b, .int .i64 u]) = .returned (.tuple #[.bool b', .int .i64 u']) := by rw [h, k]

end Go.Proofs.Yteagecoiijhflaa

/- The program's activities. -/
namespace Go.Proofs.Yteagecoiijhflaa
open Go.RowKit
set_option linter.unusedVariables false
set_option linter.unusedSimpArgs false

/-- n numbers -/
def nvs (n : Nat) (f : Nat → Nat) : List Value := (List.range n).map fun q => .int .i64 (f q : Int)
theorem nvs_get {n : Nat} (f : Nat → Nat) {q : Nat} (h : q < n) : (nvs n f)[q]? = some (.int .i64 (f q : Int)) := by simp [nvs, h]
theorem nvs_set {n : Nat} (f : Nat → Nat) {j : Nat} (v : Nat) (h : j < n) : (nvs n f).set j (.int .i64 (v : Int)) = nvs n (updN f j v) := by
  apply List.ext_getElem?
  intro i
  by_cases hi : i < n
  · rw [nvs_get _ hi]
    by_cases e : i = j
    · subst e; rw [List.getElem?_set_self (by simpa [nvs] using h)]; simp [updN]
    · rw [List.getElem?_set_ne (by omega), nvs_get _ hi]; simp [updN, e]
  · rw [List.getElem?_eq_none (by simp [nvs]; omega), List.getElem?_eq_none (by simp [nvs]; omega)]
/-- 'make([]int64, n)' -/
theorem mk_i64 (n : Nat) (hn : n ≤ 100000) (u : World) : (Instr.makeSlice 26 (.int .i64 (n : Int)) (.int .i64 (n : Int))).run Try.prog u =
    .ok (.slice (some ⟨u.heap.size, 0, none⟩) n n) (u.alloc (.cells (madeCells #[.int .i64 0] n) 2)) := by
  obtain ⟨i0, hi, hz0, hz1, hz2⟩ := info_parts Try.info2
  have h := run_make (P := Try.prog) u 26 2 i0 (.int .i64 0) Try.underlying26 hi hz0 .i64 .i64 (n : Int) (n : Int) (by omega) (Int.le_refl _) (by rw [hz2]; omega) (by omega)
  simpa [hz1, Value.cells] using h
theorem made_i64 (n : Nat) : (madeCells #[Value.int .i64 0] n).toList = nvs n fun _ => 0 := by
  simp only [madeCells, Array.toList_map, Array.toList_range, nvs]
  exact List.map_congr_left fun x _ => by simp [Nat.mod_one]
theorem acts_succ (m : Mch) (q k : Nat) : i64s (acts m q (k + 1)) = i64s (acts m q k) ++ [.int .i64 (sumR m (nowS m allB q k) m.s : Int)] := by simp [acts, i64s, List.range_succ]
theorem acts_length (m : Mch) (q k : Nat) : (acts m q k).length = k := by simp [acts]

end Go.Proofs.Yteagecoiijhflaa

/- ActivityCounts of the program. -/
namespace Go.Proofs.Yteagecoiijhflaa
open Go.RowKit
set_option linter.unusedVariables false
set_option linter.unusedSimpArgs false

theorem short_nil : Short ⟨#[]⟩ := by show (0 : Nat) ≤ _; omega
def actsC (m : Mch) (q n : Int) : Int := if codeP m q ⟨#[]⟩ = 0 then (if inR n 0 20 then 0 else 2) else codeP m q ⟨#[]⟩
def actsL (m : Mch) (q n : Int) : List Int := if actsC m q n = 0 then acts m q.toNat (n.toNat + 1) else []
/-- it returns a slice of numbers of its own and a code -/
def RetI (xs : List Int) (c : Int) (w : World) (e : Ending) (w' : World) : Prop := ∃ v, e = .returned (.tuple #[v, .int .i64 c]) ∧ Below w.heap.size w w' ∧ OwnI w' w.heap.size v xs
theorem OwnI.nil (w : World) (B : Nat) : OwnI w B (.slice none 0 0) [] := World.ownsRow_nil _ _ _ _

end Go.Proofs.Yteagecoiijhflaa
