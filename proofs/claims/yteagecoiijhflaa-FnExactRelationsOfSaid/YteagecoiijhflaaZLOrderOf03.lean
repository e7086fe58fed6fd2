import Derived.Test.YteagecoiijhflaaZLOrderOf02
import Derived.Test.YteagecoiijhflaaZLOrderOf01
import Derived.Laws.OwnMore
/- Greatest common divisors and least common multiples of both sides. -/
namespace Go.Proofs.Yteagecoiijhflaa
open Go.RowKit
set_option linter.unusedVariables false
set_option linter.unusedSimpArgs false

theorem gcd_step (a b : Nat) : Nat.gcd a b = Nat.gcd b (a % b) := by rw [Nat.gcd_comm a b, Nat.gcd_rec b a, Nat.gcd_comm]

set_option maxHeartbeats 1000000 in
theorem l06Divisor_any (a b : Nat) (ha : a ≤ 1000000000000) (hb : b ≤ 1000000000000) (w : World) :
    Calls Try.prog 139 #[.int .i64 (a : Int), .int .i64 (b : Int)] w (RetQ (.int .i64 (Nat.gcd a b : Int)) w) := by
  go_enter Try.func139, Try.ntmps139
  go_wp2_with fail
  go_loopw [0, 1] (fun u v wr => ∃ x y : Nat, u = .int .i64 (x : Int) ∧ v = .int .i64 (y : Int) ∧ x ≤ 1000000000000 ∧ y ≤ 1000000000000 ∧ Hid (Nat.gcd x y = Nat.gcd a b) ∧ Hid (∃ n, wr = w.drewN n)) (fun _ v _ => (intOf v).toNat)
  case atStart => exact ⟨a, b, rfl, rfl, ha, hb, rfl, 0, rfl⟩
  case round =>
    obtain ⟨x, y, rfl, rfl, hx, hy, HG, HW⟩ := hrel
    by_cases h0 : y = 0
    · subst h0
      have HE : Hid (x = Nat.gcd a b) := by show _ = _; rw [← HG.out, Nat.gcd_zero_right]
      clear HG
      go_wp2_with fail
      go_ret
      rw [← HE.out]
      exact ⟨rfl, HW.out⟩
    · have h1 : ((y : Int) == 0) = false := by simp; omega
      have h2 : ((y : Int) != 0) = true := by simp; omega
      have h3 : (y : Int) ≠ 0 := by omega
      have hlt : x % y < y := Nat.mod_lt _ (by omega)
      have HS := Lib.hid (gcd_step x y)
      go_wp2_with fail
      go_roundw
      case rel => exact ⟨y, x % y, rfl, by rw [Int.natCast_emod], hy, by omega, HS.out.symm.trans HG.out, HW.out⟩
      case measure => simp only [intOf]; rw [← Int.natCast_emod]; simp only [Int.toNat_natCast]; exact hlt
set_option maxHeartbeats 1000000 in
theorem common_any (a b : Nat) (ha : a ≤ 1000000000000) (hb : b ≤ 1000000000000) (w : World) :
    Calls Try.prog 142 #[.int .i64 (a : Int), .int .i64 (b : Int)] w (RetQ (.int .i64 (Nat.gcd a b : Int)) w) := by
  go_enter Try.func142, Try.ntmps142
  go_wp2_with fail
  go_loopw [0, 1] (fun u v wr => ∃ x y : Nat, u = .int .i64 (x : Int) ∧ v = .int .i64 (y : Int) ∧ x ≤ 1000000000000 ∧ y ≤ 1000000000000 ∧ Hid (Nat.gcd x y = Nat.gcd a b) ∧ Hid (∃ n, wr = w.drewN n)) (fun _ v _ => (intOf v).toNat)
  case atStart => exact ⟨a, b, rfl, rfl, ha, hb, rfl, 0, rfl⟩
  case round =>
    obtain ⟨x, y, rfl, rfl, hx, hy, HG, HW⟩ := hrel
    by_cases h0 : y = 0
    · subst h0
      have HE : Hid (x = Nat.gcd a b) := by show _ = _; rw [← HG.out, Nat.gcd_zero_right]
      clear HG
      go_wp2_with fail
      go_ret
      rw [← HE.out]
      exact ⟨rfl, HW.out⟩
    · have h1 : ((y : Int) == 0) = false := by simp; omega
      have h2 : ((y : Int) != 0) = true := by simp; omega
      have h3 : (y : Int) ≠ 0 := by omega
      have hlt : x % y < y := Nat.mod_lt _ (by omega)
      have HS := Lib.hid (gcd_step x y)
      go_wp2_with fail
      go_quiet (fail)
      go_wp2_with fail
      go_roundw
      case rel => exact ⟨y, x % y, rfl, by rw [Int.natCast_emod], hy, by omega, HS.out.symm.trans HG.out, by obtain ⟨n, hn⟩ := HW.out; rw [hn]; exact dN2 _ _ _⟩
      case measure => simp only [intOf]; rw [← Int.natCast_emod]; simp only [Int.toNat_natCast]; exact hlt
theorem multiple_any (a b : Nat) (ha : 1 ≤ a ∧ a ≤ 1000000000000) (hb : 1 ≤ b ∧ b ≤ 1000000000000) (hm : a / Nat.gcd a b * b ≤ 1000000000000) (w : World) :
    Calls Try.prog 143 #[.int .i64 (a : Int), .int .i64 (b : Int)] w (RetQ (.int .i64 ((a / Nat.gcd a b * b : Nat) : Int)) w) := by
  have HC := Lib.hid (common_any a b ha.2 hb.2 w)
  have hg : 0 < Nat.gcd a b := Nat.gcd_pos_of_pos_left _ (by omega)
  have hle : a / Nat.gcd a b ≤ a := Nat.div_le_self _ _
  generalize Nat.gcd a b = d at *
  have h3 : (d : Int) ≠ 0 := by omega
  have h1 : ((d : Int) == 0) = false := by simp; omega
  go_enter Try.func143, Try.ntmps143
  go_wp2_with (refine HC.out.mono ?_; rintro e w' ⟨rfl, n, rfl⟩)
  rw [← Int.natCast_ediv]
  clear h1 h3 hg
  generalize a / d = q at *
  have e1 : wrap64 (q : Int) = (q : Int) := by unfold wrap64; omega
  rw [e1, ← Int.natCast_mul]
  generalize q * b = r at *
  have e2 : wrap64 (r : Int) = (r : Int) := by unfold wrap64; omega
  rw [e2]
  go_ret
  exact ⟨rfl, n, rfl⟩
end Go.Proofs.Yteagecoiijhflaa

/- IsMachine and its reference. -/
namespace Go.Proofs.Yteagecoiijhflaa
open Go.RowKit
set_option linter.unusedVariables false
set_option linter.unusedSimpArgs false

theorem MAt.alloc {w : World} {b o : Nat} {m : Mch} (h : MAt w b o m) (hb : b < w.heap.size) (ob : Obj) : MAt (w.alloc ob) b o m :=
  fun j v hj => (World.cell?_alloc_past _ _ _ hb).trans (h j v hj)
theorem MAt.setCell {w : World} {b o : Nat} {m : Mch} (h : MAt w b o m) {a : Addr} (hb : b ≠ a.block) (u : Value) : MAt (w.setCell a u) b o m :=
  fun j v hj => (World.cell?_setCell_other _ _ _ _ (by intro e; apply hb; rw [e])).trans (h j v hj)

def rowsUpto (m : Mch) (k : Nat) : Bool := (List.range k).all fun q => rowP m q
theorem rowsUpto_succ (m : Mch) (k : Nat) : rowsUpto m (k + 1) = (rowsUpto m k && rowP m k) := by
  simp [rowsUpto, List.range_succ, List.all_append]
theorem mach_false {m : Mch} {k : Nat} (hk : k < 16) (h : rowP m k = false) : machP m = false := by
  have : (List.range 16).all (fun q => rowP m q) = false := by
    rw [List.all_eq_false]
    exact ⟨k, by simpa using hk, by simp [h]⟩
  simp [machP, this]

set_option maxHeartbeats 1000000 in
theorem IsMachine_any (m : Mch) (hwf : m.Wf) (w : World) :
    Calls Try.prog 66 #[.agg m.cells.toArray] w (Ret (.bool (machP m)) w) := by
  have hm := MAt.boxed w m 29
  have hl : (w.alloc (.cells m.cells.toArray 29)).cell? ⟨w.heap.size, 0, none⟩ = some (.int .i64 m.L) := hm.l
  have hs : (w.alloc (.cells m.cells.toArray 29)).cell? ⟨w.heap.size, 1, none⟩ = some (.int .i64 m.S) := hm.s
  have hb0 : Below w.heap.size w (w.alloc (.cells m.cells.toArray 29)) := (Below.refl _ _).alloc (Nat.le_refl _) _
  have HF : Hid (inR m.L 2 3 = false → machP m = false) := fun h => by simp [machP, h]
  have HF2 : Hid (inR m.S 1 16 = false → machP m = false) := fun h => by simp [machP, h]
  by_cases c1 : inR m.L 2 3 = true
  · by_cases c2 : inR m.S 1 16 = true
    · have hL : m.L ≤ 3 := by simp [inR] at c1; omega
      have HT : Hid (rowsUpto m 16 = true → machP m = true) := fun h => by simp [machP, c1, c2]; simpa [rowsUpto] using h
      go_enter Try.func66, Try.ntmps66
      go_wp2_with (first | (go_at_call 102; refine (areLetters_any _ _).mono ?_; rintro e w' ⟨rfl, rfl⟩) | (go_at_call 59; refine (within_any _ _ _ _).mono ?_; rintro e w' ⟨rfl, rfl⟩))
      go_loopw [2, 14] (fun r x wr => ∃ k n : Nat, k ≤ 16 ∧ x = .int .i64 k ∧ rowsUpto m k = true ∧ r = .bool false ∧ wr = (w.alloc (.cells m.cells.toArray 29)).drewN n) (fun _ x _ => 16 - (intOf x).toNat)
      case atStart => exact ⟨0, 0, by omega, rfl, rfl, rfl, rfl⟩
      case round =>
        obtain ⟨k, n, hk, rfl, hu, rfl, rfl⟩ := hrel
        have HU := Lib.hid hu
        clear hu
        by_cases hlt : k < 16
        · have i1 : (k : Int) < 16 := by omega
          go_wp2_with (go_at_call 103; refine (isRow_any _ 0 m hwf k hlt _ (hm.drewN n) hL).mono ?_; rintro e w' ⟨rfl, n', rfl⟩)
          · have hr : (!rowP m k) = true := by assumption
            go_ret
            exact ⟨ret_bool (mach_false hlt (by simpa using hr)).symm, below_dN hb0 _⟩
          · have hr : (!rowP m k) = false := by assumption
            go_roundw
            case rel => exact ⟨k + 1, _, by omega, by go_num, by rw [rowsUpto_succ, HU.out]; simpa using hr, rfl, rfl⟩
            case measure => simp [intOf]; omega
        · have hk16 : k = 16 := by omega
          subst hk16
          go_wp2
          go_ret
          exact ⟨ret_bool (HT.out HU.out).symm, below_dN hb0 _⟩
    · go_enter Try.func66, Try.ntmps66
      go_wp2_with (first | (go_at_call 102; refine (areLetters_any _ _).mono ?_; rintro e w' ⟨rfl, rfl⟩) | (go_at_call 59; refine (within_any _ _ _ _).mono ?_; rintro e w' ⟨rfl, rfl⟩))
      go_ret
      exact ⟨ret_bool (HF2.out (by simpa using c2)).symm, hb0⟩
  · go_enter Try.func66, Try.ntmps66
    go_wp2_with (first | (go_at_call 102; refine (areLetters_any _ _).mono ?_; rintro e w' ⟨rfl, rfl⟩) | (go_at_call 59; refine (within_any _ _ _ _).mono ?_; rintro e w' ⟨rfl, rfl⟩))
    go_ret
    exact ⟨ret_bool (HF.out (by simpa using c1)).symm, hb0⟩
end Go.Proofs.Yteagecoiijhflaa

/- Codes of machines, words and states; looking for an element by a function. -/
namespace Go.Proofs.Yteagecoiijhflaa
open Go.RowKit
set_option linter.unusedVariables false
set_option linter.unusedSimpArgs false

theorem out_nat (b o : Nat) (m : Mch) (hwf : m.Wf) (q x : Nat) (hq : q < 16) (hx : x < 3) (w : World) (hm : MAt w b o m) :
    Calls Try.prog 133 #[.pointer (some ⟨b, o, none⟩), .int .i64 q, .int .i64 x] w fun e w' => e = .returned (.int .i64 (m.o q x)) ∧ w = w' := by
  have e3 := hm.oo hwf hq hx
  have b3 : 0 ≤ m.o q x ∧ m.o q x ≤ 255 := hwf.ob (q * 3 + x)
  have i1 : (q : Int) < 16 := by omega
  have i2 : (x : Int) < 3 := by omega
  go_enter Try.func133, Try.ntmps133
  go_wp2
  go_ret
  exact ⟨rfl, rfl⟩

theorem next_nat (b o : Nat) (m : Mch) (hwf : m.Wf) (q x : Nat) (hq : q < 16) (hx : x < 3) (w : World) (hm : MAt w b o m) :
    Calls Try.prog 132 #[.pointer (some ⟨b, o, none⟩), .int .i64 q, .int .i64 x] w fun e w' => e = .returned (.int .i64 (m.n q x)) ∧ w = w' := by
  have e3 := hm.nn hwf hq hx
  have b3 : 0 ≤ m.n q x ∧ m.n q x ≤ 255 := hwf.nb (q * 3 + x)
  have i1 : (q : Int) < 16 := by omega
  have i2 : (x : Int) < 3 := by omega
  go_enter Try.func132, Try.ntmps132
  go_wp2
  go_ret
  exact ⟨rfl, rfl⟩

theorem out_any (b o : Nat) (m : Mch) (hwf : m.Wf) (q x : Int) (hq : 0 ≤ q ∧ q < 16) (hx : 0 ≤ x ∧ x < 3) (w : World) (hm : MAt w b o m) :
    Calls Try.prog 133 #[.pointer (some ⟨b, o, none⟩), .int .i64 q, .int .i64 x] w fun e w' => e = .returned (.int .i64 (m.o q.toNat x.toNat)) ∧ w = w' := by
  have := out_nat b o m hwf q.toNat x.toNat (by omega) (by omega) w hm
  rwa [Int.toNat_of_nonneg hq.1, Int.toNat_of_nonneg hx.1] at this
theorem next_any (b o : Nat) (m : Mch) (hwf : m.Wf) (q x : Int) (hq : 0 ≤ q ∧ q < 16) (hx : 0 ≤ x ∧ x < 3) (w : World) (hm : MAt w b o m) :
    Calls Try.prog 132 #[.pointer (some ⟨b, o, none⟩), .int .i64 q, .int .i64 x] w fun e w' => e = .returned (.int .i64 (m.n q.toNat x.toNat)) ∧ w = w' := by
  have := next_nat b o m hwf q.toNat x.toNat (by omega) (by omega) w hm
  rwa [Int.toNat_of_nonneg hq.1, Int.toNat_of_nonneg hx.1] at this

/-- function k is entered by a call -/
def Enters (k : Nat) : Prop := ∀ args w, Sem.run Try.prog (callFunc k args) w = .ok (.enter k args) w
/-- a slice of ints that reads as xs -/
def IntsAt (w : World) (a : Option Addr) (xs : List Int) : Prop := ∀ i, i < xs.length → ∃ b off, a = some ⟨b, off, none⟩ ∧ w.cell? ⟨b, off + i, none⟩ = some (.int .i64 (xs[i]?.getD 0))
theorem IntsAt.keep {w w' : World} {a : Option Addr} {xs : List Int} (h : IntsAt w a xs) (hb : Below w.heap.size w w') : IntsAt w' a xs := fun i hi => by
  obtain ⟨b, off, ha, hc⟩ := h i hi
  exact ⟨b, off, ha, (hb.cell (p := ⟨b, off + i, none⟩) (World.block_lt_of_cell? w _ hc)).trans hc⟩

theorem IntsAt.below {w w' : World} {a : Option Addr} {xs : List Int} (h : IntsAt w a xs) (hb : Below w.heap.size w w') : IntsAt w' a xs := h.keep hb

/-- the first place at which p holds, or -1 -/
def idxP {α : Type} (p : α → Bool) (xs : List α) : Int := match xs.findIdx? p with | some i => (i : Int) | none => -1
theorem idxP_hit {α : Type} {p : α → Bool} {xs : List α} {k : Nat} (hk : k < xs.length) (h1 : p xs[k] = true) (h2 : ∀ j (hj : j < k), p (xs[j]'(by omega)) = false) : idxP p xs = k := by
  have : xs.findIdx? p = some k := by
    rw [List.findIdx?_eq_some_iff_getElem]
    exact ⟨hk, h1, fun j hj => by simp [h2 j hj]⟩
  rw [idxP, this]
theorem idxP_none {α : Type} {p : α → Bool} {xs : List α} (h : ∀ j (hj : j < xs.length), p xs[j] = false) : idxP p xs = -1 := by
  have : xs.findIdx? p = none := by
    rw [List.findIdx?_eq_none_iff]
    intro x hx
    obtain ⟨j, hj, rfl⟩ := List.mem_iff_getElem.1 hx
    exact h j hj
  rw [idxP, this]
theorem idxP_ge {α : Type} (p : α → Bool) (xs : List α) : decide (0 ≤ idxP p xs) = xs.any p := by
  unfold idxP
  cases h : xs.findIdx? p with
  | none =>
    rw [List.findIdx?_eq_none_iff] at h
    have : xs.any p = false := by rw [List.any_eq_false]; intro x hx; simp [h x hx]
    rw [this]; rfl
  | some i =>
    rw [List.findIdx?_eq_some_iff_getElem] at h
    obtain ⟨hi, h1, _⟩ := h
    have : xs.any p = true := List.any_eq_true.2 ⟨_, List.getElem_mem hi, h1⟩
    rw [this]
    simp only [decide_eq_true_eq]
    omega

set_option maxRecDepth 100000 in
set_option maxHeartbeats 1000000 in
theorem indexFuncI_any (k : Nat) (hent : Enters k) (cap : Array Value) (a : Option Addr) (xs : List Int) (c : Nat) (hn : xs.length ≤ 10000) (p : Int → Bool) (w : World) (R : World → Prop) (hR : R w)
    (hc : ∀ w', R w' → IntsAt w' a xs) (hf : ∀ w', R w' → ∀ i (hi : i < xs.length), Calls Try.prog k (#[.int .i64 (xs[i])] ++ cap) w' fun e w'' => e = .returned (.bool (p xs[i])) ∧ R w'') :
    Calls Try.prog 150 #[.slice a xs.length c, .func (.func k) #[] cap] w fun e w' => e = .returned (.int .i64 (idxP p xs)) ∧ R w' := by
  have hent' : ∀ args w, Sem.run Try.prog (callFunc k args) w = .ok (.enter k args) w := hent
  have HC := Lib.hid hc
  have HF := Lib.hid hf
  clear hc hf hent
  go_enter Try.func150, Try.ntmps150
  go_wp2
  go_loopw [4, 8] (fun r i wr => ∃ j : Nat, j ≤ xs.length ∧ i = .int .i64 j ∧ r = .int .i64 0 ∧ Hid (R wr) ∧ Hid (∀ i (hi : i < xs.length), i < j → p xs[i] = false)) (fun _ i _ => xs.length - (intOf i).toNat)
  case atStart => exact ⟨0, Nat.zero_le _, rfl, rfl, hR, fun i hi h => by omega⟩
  case round =>
    obtain ⟨j, hj, rfl, rfl, hRr, hI⟩ := hrel
    by_cases hlt : j < xs.length
    · obtain ⟨b, off, rfl, hcell⟩ := HC.out _ hRr.out j hlt
      rw [List.getElem?_eq_getElem hlt, Option.getD_some] at hcell
      have i1 : (j : Int) < xs.length := by omega
      have i2 : (0 : Int) ≤ (j : Int) := by omega
      obtain ⟨x, hx⟩ : ∃ x, x = xs[j] := ⟨_, rfl⟩
      have hcall := Lib.hid (HF.out _ hRr.out j hlt)
      rw [← hx] at hcell hcall
      have HXX := Lib.hid hx
      clear hx
      go_wp2_with fail
      refine hcall.out.mono ?_
      rintro e w1 ⟨rfl, hR1⟩
      cases hp : p x
      · have HJ := Lib.hid (show ∀ i (hi : i < xs.length), i < j + 1 → p xs[i] = false from fun i hi h => by
          by_cases e : i = j
          · subst e; rw [← HXX.out]; exact hp
          · exact hI.out i hi (by omega))
        have HR1 := Lib.hid hR1
        clear hp hR1
        go_wp2
        go_roundw
        case rel => exact ⟨j + 1, by omega, by go_num, rfl, HR1, HJ.out⟩
        case measure => simp [intOf]; omega
      · have HJ := Lib.hid (idxP_hit hlt (by rw [← HXX.out]; exact hp) (fun i hi => hI.out i (by omega) hi))
        have HR1 := Lib.hid hR1
        clear hp hR1
        go_wp2
        go_ret
        exact ⟨ret_int HJ.out.symm, HR1.out⟩
    · have HJ := Lib.hid (idxP_none (p := p) (xs := xs) (fun i hi => hI.out i hi (by omega)))
      have hj' : ¬ (j : Int) < xs.length := by omega
      go_wp2
      go_ret
      exact ⟨ret_int HJ.out.symm, hRr.out⟩

set_option maxHeartbeats 1000000 in
theorem containsFuncI_any (k : Nat) (hent : Enters k) (cap : Array Value) (a : Option Addr) (xs : List Int) (c : Nat) (hn : xs.length ≤ 10000) (p : Int → Bool) (w : World) (R : World → Prop) (hR : R w)
    (hc : ∀ w', R w' → IntsAt w' a xs) (hf : ∀ w', R w' → ∀ i (hi : i < xs.length), Calls Try.prog k (#[.int .i64 (xs[i])] ++ cap) w' fun e w'' => e = .returned (.bool (p xs[i])) ∧ R w'') :
    Calls Try.prog 126 #[.slice a xs.length c, .func (.func k) #[] cap] w fun e w' => e = .returned (.bool (xs.any p)) ∧ R w' := by
  have HE := Lib.hid hent
  have HC := Lib.hid hc
  have HF := Lib.hid hf
  have HN := Lib.hid hn
  have HR := Lib.hid hR
  clear hc hf hn hR hent
  go_enter Try.func126, Try.ntmps126
  go_wp2_with fail
  refine (indexFuncI_any k HE.out cap a xs c HN.out p w R HR.out HC.out HF.out).mono ?_
  rintro e w1 ⟨rfl, hR1⟩
  have HR1 := Lib.hid hR1
  clear hR1
  go_wp2
  go_ret
  exact ⟨ret_bool (idxP_ge p xs), HR1.out⟩

end Go.Proofs.Yteagecoiijhflaa

/- Tables: two slices of rows under one pointer, while they are built. -/
namespace Go.Proofs.Yteagecoiijhflaa
open Go.RowKit
set_option linter.unusedVariables false
set_option linter.unusedSimpArgs false

def i64s (xs : List Int) : List Value := xs.map (Value.int .i64)
theorem i64s_get {xs : List Int} {i : Nat} (h : i < xs.length) : (i64s xs)[i]? = some (.int .i64 (xs[i]?.getD 0)) := by
  simp [i64s, List.getElem?_eq_getElem h]
theorem i64s_length (xs : List Int) : (i64s xs).length = xs.length := by simp [i64s]

/-- v is a slice of the values xs, at the head of a block of E's that nobody has frozen -/
def RowV (w : World) (E : TypeId) (v : Value) (xs : List Value) : Prop :=
  ∃ g c cur, v = .slice (some ⟨g, 0, none⟩) xs.length c ∧ w.heap[g]? = some (.cells cur E (0, 0)) ∧ cur.toList.take xs.length = xs
theorem RowV.same {w w' : World} {E : TypeId} {v : Value} {xs : List Value} (h : RowV w E v xs) (hb : ∀ (g : Nat) (cur : Array Value), w.heap[g]? = some (.cells cur E (0, 0)) → w'.heap[g]? = some (.cells cur E (0, 0))) : RowV w' E v xs := by
  obtain ⟨g, c, cur, hv, hg, ht⟩ := h
  exact ⟨g, c, cur, hv, hb g cur hg, ht⟩
theorem RowV.keep {w w' : World} {E : TypeId} {v : Value} {xs : List Value} (h : RowV w E v xs) (hb : Below w.heap.size w w') : RowV w' E v xs :=
  h.same fun g cur hg => (hb.block g (Array.getElem?_eq_some_iff.1 hg).1).trans hg
theorem RowV.of_own {w : World} {base : Nat} {E : TypeId} {v : Value} {xs : List Value} (h : w.ownsRow base E 1 v xs.length xs) (h0 : 0 < xs.length) : RowV w E v xs := by
  rcases h.2 with ⟨_, e⟩ | ⟨g, cap, cur, rfl, hb, hg, h1, h2, h3, h4⟩
  · omega
  · exact ⟨g, cap, cur, rfl, hg, by simpa using h4⟩
theorem RowV.cell {w : World} {E : TypeId} {v : Value} {xs : List Value} (h : RowV w E v xs) : ∃ g c, v = .slice (some ⟨g, 0, none⟩) xs.length c ∧ ∀ i (hi : i < xs.length), w.cell? ⟨g, i, none⟩ = some xs[i] := by
  obtain ⟨g, c, cur, hv, hg, ht⟩ := h
  refine ⟨g, c, hv, fun i hi => ?_⟩
  rw [cell_of_row w g i _ E _ hg, ← Array.getElem?_toList, ← List.getElem?_take_of_lt hi, ht, List.getElem?_eq_getElem hi]

/-- an append to a row of another type leaves it -/
theorem RowV.grown {w w' : World} {E F : TypeId} {v o : Value} {xs ys : List Value} {base n : Nat} (h : RowV w E v xs) (hg : w.grownBy w' o.ownBlock) (ho : w.ownsRow base F 1 o n ys) (hne : E ≠ F) : RowV w' E v xs :=
  h.same fun g cur hc => by
    rw [hg.block g (Array.getElem?_eq_some_iff.1 hc).1 (fun e => ?_)]; exact hc
    rcases ho.2 with ⟨rfl, _⟩ | ⟨g', cap, cur', rfl, _, hg', _⟩
    · simp [Value.ownBlock] at e
    · simp [Value.ownBlock] at e
      subst e
      rw [hg'] at hc
      simp at hc
      exact hne hc.2.symm
theorem Blk.grown {w w' : World} {b T F : Nat} {cs ys : List Value} {o : Value} {base n : Nat} (h : Blk w b cs T) (hg : w.grownBy w' o.ownBlock) (ho : w.ownsRow base F 1 o n ys) (hne : T ≠ F) : Blk w' b cs T := by
  show _ = _
  rw [hg.block b h.lt (fun e => ?_)]; exact h
  rcases ho.2 with ⟨rfl, _⟩ | ⟨g', cap, cur', rfl, _, hg', _⟩
  · simp [Value.ownBlock] at e
  · simp [Value.ownBlock] at e
    subst e
    have := hg'.symm.trans h
    simp at this
    exact hne this.2.symm

/-- slices of rows -/
def RowsV (w : World) (E : TypeId) (rs : List Value) (N : List (List Value)) : Prop := rs.length = N.length ∧ ∀ (i : Nat) (v : Value) (xs : List Value), rs[i]? = some v → N[i]? = some xs → RowV w E v xs
theorem RowsV.same {w w' : World} {E : TypeId} {rs : List Value} {N : List (List Value)} (h : RowsV w E rs N) (hk : ∀ v xs, RowV w E v xs → RowV w' E v xs) : RowsV w' E rs N :=
  ⟨h.1, fun i v xs h1 h2 => hk v xs (h.2 i v xs h1 h2)⟩
theorem RowsV.add {w : World} {E : TypeId} {rs : List Value} {N : List (List Value)} {v : Value} {xs : List Value} (h : RowsV w E rs N) (hv : RowV w E v xs) : RowsV w E (rs ++ [v]) (N ++ [xs]) := by
  refine ⟨by simp [h.1], fun i u ys h1 h2 => ?_⟩
  by_cases hi : i < rs.length
  · rw [List.getElem?_append_left hi] at h1
    rw [List.getElem?_append_left (by rw [← h.1]; exact hi)] at h2
    exact h.2 i u ys h1 h2
  · rw [List.getElem?_append_right (by omega)] at h1
    rw [List.getElem?_append_right (by rw [← h.1]; omega), ← h.1] at h2
    by_cases e : i - rs.length = 0
    · rw [e] at h1 h2; simp at h1 h2; subst h1; subst h2; exact hv
    · rw [List.getElem?_eq_none (by simp; omega)] at h1; cases h1

/-- what table() has made so far: the pair (tN, tO) lies in block T; vN and vO are the slices of rows, behind the appends -/
structure TabM (B : Nat) (w : World) (T : Nat) (tN tO vN vO : Value) (rN rO : List Value) (N O : List (List Value)) (v5 : Value) (x5 : List Value) (v6 : Value) (x6 : List Value) : Prop where
  bs : B ≤ w.heap.size
  blk : Blk w T [tN, tO] 168
  oN : w.ownsRow B 26 1 vN rN.length rN
  oO : w.ownsRow B 26 1 vO rO.length rO
  ne : vN.ownBlock = none ∨ vN.ownBlock ≠ vO.ownBlock
  rowsN : RowsV w 2 rN N
  rowsO : RowsV w 2 rO O
  r5 : RowV w 2 v5 x5
  r6 : RowV w 2 v6 x6
section
variable {B : Nat} {w w' : World} {T : Nat} {tN tO vN vO : Value} {rN rO : List Value} {N O : List (List Value)} {v5 v6 : Value} {x5 x6 : List Value}
theorem TabM.keep (h : TabM B w T tN tO vN vO rN rO N O v5 x5 v6 x6) (hb : Below w.heap.size w w') : TabM B w' T tN tO vN vO rN rO N O v5 x5 v6 x6 := by
  have hg : w.grownBy w' none := ⟨hb.os, hb.tape, hb.output, hb.size, fun k hk _ => hb.block k hk⟩
  exact ⟨Nat.le_trans h.bs hb.size, h.blk.keep hb, h.oN.kept hg (by by_cases e : vN.ownBlock = none <;> simp [e]), h.oO.kept hg (by by_cases e : vO.ownBlock = none <;> simp [e]), h.ne,
    h.rowsN.same fun _ _ h => h.keep hb, h.rowsO.same fun _ _ h => h.keep hb, h.r5.keep hb, h.r6.keep hb⟩
theorem TabM.alloc (h : TabM B w T tN tO vN vO rN rO N O v5 x5 v6 x6) (o : Obj) : TabM B (w.alloc o) T tN tO vN vO rN rO N O v5 x5 v6 x6 :=
  h.keep ((Below.refl _ w).alloc (Nat.le_refl _) o)
theorem TabM.drew (h : TabM B w T tN tO vN vO rN rO N O v5 x5 v6 x6) : TabM B w.drew T tN tO vN vO rN rO N O v5 x5 v6 x6 := ⟨h.bs, h.blk, h.oN, h.oO, h.ne, h.rowsN.same fun _ _ h => h.same fun _ _ h => h, h.rowsO.same fun _ _ h => h.same fun _ _ h => h, h.r5.same fun _ _ h => h, h.r6.same fun _ _ h => h⟩
theorem TabM.appN (h : TabM B w T tN tO vN vO rN rO N O v5 x5 v6 x6) {v : Value} {g cap : Nat} (hv : v = .slice (some ⟨g, 0, none⟩) (rN.length + 1) cap)
    (ho : w'.ownsRow B 26 1 v (rN.length + 1) (rN ++ [v5])) (hg : w.grownBy w' vN.ownBlock) (hl : vN.ownBlock = some g ∨ g = w.heap.size) :
    TabM B w' T tN tO v vO (rN ++ [v5]) rO (N ++ [x5]) O v5 x5 v6 x6 := by
  have r5' := h.r5.grown hg h.oN (by decide)
  refine ⟨Nat.le_trans h.bs hg.size, h.blk.grown hg h.oN (by decide), by simpa using ho, h.oO.kept hg ?_, ?_, (h.rowsN.same fun _ _ h' => h'.grown hg h.oN (by decide)).add r5', h.rowsO.same fun _ _ h' => h'.grown hg h.oN (by decide), r5', h.r6.grown hg h.oN (by decide)⟩
  · rcases h.ne with e | e
    · rw [e]; by_cases e' : vO.ownBlock = none <;> simp [e']
    · exact .inr (Ne.symm e)
  · right
    subst hv
    intro e
    simp only [Value.ownBlock] at e
    rcases hl with hl | hl
    · rcases h.ne with e' | e'
      · rw [e'] at hl; cases hl
      · rw [hl] at e'; exact e' e
    · have := (h.oO.lt g e.symm).2; omega
theorem TabM.appO (h : TabM B w T tN tO vN vO rN rO N O v5 x5 v6 x6) {v : Value} {g cap : Nat} (hv : v = .slice (some ⟨g, 0, none⟩) (rO.length + 1) cap)
    (ho : w'.ownsRow B 26 1 v (rO.length + 1) (rO ++ [v6])) (hg : w.grownBy w' vO.ownBlock) (hl : vO.ownBlock = some g ∨ g = w.heap.size) :
    TabM B w' T tN tO vN v rN (rO ++ [v6]) N (O ++ [x6]) v5 x5 v6 x6 := by
  have r6' := h.r6.grown hg h.oO (by decide)
  refine ⟨Nat.le_trans h.bs hg.size, h.blk.grown hg h.oO (by decide), h.oN.kept hg h.ne, by simpa using ho, ?_, h.rowsN.same fun _ _ h' => h'.grown hg h.oO (by decide), (h.rowsO.same fun _ _ h' => h'.grown hg h.oO (by decide)).add r6', h.r5.grown hg h.oO (by decide), r6'⟩
  subst hv
  by_cases e0 : vN.ownBlock = none
  · exact .inl e0
  · right
    intro e
    simp only [Value.ownBlock] at e
    rcases hl with hl | hl
    · rcases h.ne with e' | e'
      · exact e0 e'
      · rw [hl] at e'; exact e' e
    · have := (h.oN.lt g e).2; omega
/-- the stores at the end -/
theorem TabM.store (h : TabM B w T tN tO vN vO rN rO N O v5 x5 v6 x6) : TabM B ((w.setCell ⟨T, 0, none⟩ vN).setCell ⟨T, 1, none⟩ vO) T vN vO vN vO rN rO N O v5 x5 v6 x6 := by
  have hs : ∀ (w : World) (i : Nat) (u : Value) (cs : List Value), Blk w T cs 168 → ∀ (E : TypeId), E ≠ 168 → ∀ (g : Nat) (cur : Array Value), w.heap[g]? = some (.cells cur E (0, 0)) → (w.setCell ⟨T, i, none⟩ u).heap[g]? = some (.cells cur E (0, 0)) := by
    intro w i u cs hb E hE g cur hg
    rw [heap_setCell_other w ⟨T, i, none⟩ g u (fun e => ?_)]; exact hg
    simp only at e
    subst e
    have := hg.symm.trans hb
    simp at this
    exact hE this.2
  have h1 := h.blk.setCell 0 vN
  have h2 := h1.setCell 1 vO
  have go : ∀ (E : TypeId), E ≠ 168 → ∀ (g : Nat) (cur : Array Value), w.heap[g]? = some (.cells cur E (0, 0)) → ((w.setCell ⟨T, 0, none⟩ vN).setCell ⟨T, 1, none⟩ vO).heap[g]? = some (.cells cur E (0, 0)) :=
    fun E hE g cur hg => hs _ 1 vO _ h1 E hE g cur (hs _ 0 vN _ h.blk E hE g cur hg)
  have own : ∀ {v : Value} {n : Nat} {xs : List Value}, w.ownsRow B 26 1 v n xs → ((w.setCell ⟨T, 0, none⟩ vN).setCell ⟨T, 1, none⟩ vO).ownsRow B 26 1 v n xs := fun ho => by
    refine ⟨ho.1, ?_⟩
    rcases ho.2 with hn | ⟨g, cap, cur, hv, hb, hg, rest⟩
    · exact .inl hn
    · exact .inr ⟨g, cap, cur, hv, hb, go _ (by decide) g cur hg, rest⟩
  refine ⟨?_, ?_, own h.oN, own h.oO, h.ne, h.rowsN.same fun _ _ h' => h'.same (go _ (by decide)), h.rowsO.same fun _ _ h' => h'.same (go _ (by decide)), h.r5.same (go _ (by decide)), h.r6.same (go _ (by decide))⟩
  · have := h.bs; simpa [World.setCell] using this
  · simpa using h2
theorem TabM.of_below {v5' v6' : Value} {x5' x6' : List Value} (h : TabM B w T tN tO vN vO rN rO N O v5 x5 v6 x6) (hb : Below w.heap.size w w') (h5 : RowV w' 2 v5' x5') (h6 : RowV w' 2 v6' x6') : TabM B w' T tN tO vN vO rN rO N O v5' x5' v6' x6' :=
  let k := h.keep hb
  ⟨k.bs, k.blk, k.oN, k.oO, k.ne, k.rowsN, k.rowsO, h5, h6⟩
end
/-- the block of an element to be appended, apart from both slices -/
def TmpB (w : World) (t : Nat) (v vN vO : Value) : Prop := Blk w t [v] 26 ∧ vN.ownBlock ≠ some t ∧ vO.ownBlock ≠ some t
section
variable {B : Nat} {w w' : World} {T t g cap n : Nat} {tN tO vN vO v u : Value} {rN rO : List Value} {N O : List (List Value)} {v5 v6 : Value} {x5 x6 : List Value}
theorem TabM.tmp (h : TabM B w T tN tO vN vO rN rO N O v5 x5 v6 x6) (v : Value) : TmpB (w.alloc (.cells #[v] 26)) w.heap.size v vN vO :=
  ⟨Blk.new w #[v] _, fun e => by have := (h.oN.lt _ e).2; omega, fun e => by have := (h.oO.lt _ e).2; omega⟩
theorem TmpB.alloc (h : TmpB w t v vN vO) (o : Obj) : TmpB (w.alloc o) t v vN vO := ⟨h.1.alloc o, h.2⟩
theorem TmpB.appN (h : TmpB w t v vN vO) (hg : w.grownBy w' vN.ownBlock) (hl : vN.ownBlock = some g ∨ g = w.heap.size) : TmpB w' t v (.slice (some ⟨g, 0, none⟩) n cap) vO := by
  refine ⟨(hg.block t h.1.lt (fun e => h.2.1 e.symm)).trans h.1, fun e => ?_, h.2.2⟩
  simp only [Value.ownBlock] at e
  rcases hl with hl | hl
  · exact h.2.1 (hl.trans e)
  · have := h.1.lt; simp at e; omega
theorem TmpB.appO (h : TmpB w t v vN vO) (hg : w.grownBy w' vO.ownBlock) (hl : vO.ownBlock = some g ∨ g = w.heap.size) : TmpB w' t v vN (.slice (some ⟨g, 0, none⟩) n cap) := by
  refine ⟨(hg.block t h.1.lt (fun e => h.2.2 e.symm)).trans h.1, h.2.1, fun e => ?_⟩
  simp only [Value.ownBlock] at e
  rcases hl with hl | hl
  · exact h.2.2 (hl.trans e)
  · have := h.1.lt; simp at e; omega
theorem TmpB.news (h : TmpB w t v vN vO) : ∀ j u, [v][j]? = some u → w.cell? ((⟨t, 0, none⟩ : Addr).add j) = some u := by
  intro j u hj
  match j, hj with
  | 0, hj => simp at hj; subst hj; simpa [Addr.add] using h.1.cell' (i := 0) rfl
theorem TabM.belN (h : TabM B w T tN tO vN vO rN rO N O v5 x5 v6 x6) {w0 : World} (hb : Below B w0 w) (hg : w.grownBy w' vN.ownBlock) : Below B w0 w' := hb.grown hg h.bs fun k hk => (h.oN.lt k hk).1
theorem TabM.belO (h : TabM B w T tN tO vN vO rN rO N O v5 x5 v6 x6) {w0 : World} (hb : Below B w0 w) (hg : w.grownBy w' vO.ownBlock) : Below B w0 w' := hb.grown hg h.bs fun k hk => (h.oO.lt k hk).1
end
/-- a table, whole: two slices of rows under one pointer -/
def Tab (B : Nat) (w : World) (T : Nat) (N O : List (List Value)) : Prop := ∃ vN vO rN rO, B ≤ w.heap.size ∧ Blk w T [vN, vO] 168 ∧ w.ownsRow B 26 1 vN rN.length rN ∧ w.ownsRow B 26 1 vO rO.length rO ∧
  (vN.ownBlock = none ∨ vN.ownBlock ≠ vO.ownBlock) ∧ RowsV w 2 rN N ∧ RowsV w 2 rO O
theorem Tab.keep {B : Nat} {w w' : World} {T : Nat} {N O : List (List Value)} (h : Tab B w T N O) (hb : Below w.heap.size w w') : Tab B w' T N O := by
  obtain ⟨vN, vO, rN, rO, h1, h2, h3, h4, h5, h6, h7⟩ := h
  have hg : w.grownBy w' none := ⟨hb.os, hb.tape, hb.output, hb.size, fun k hk _ => hb.block k hk⟩
  exact ⟨vN, vO, rN, rO, Nat.le_trans h1 hb.size, h2.keep hb, h3.kept hg (by by_cases e : vN.ownBlock = none <;> simp [e]), h4.kept hg (by by_cases e : vO.ownBlock = none <;> simp [e]), h5,
    h6.same fun _ _ h => h.keep hb, h7.same fun _ _ h => h.keep hb⟩
theorem TabM.tab {B : Nat} {w : World} {T : Nat} {vN vO : Value} {rN rO : List Value} {N O : List (List Value)} {v5 v6 : Value} {x5 x6 : List Value} (h : TabM B w T vN vO vN vO rN rO N O v5 x5 v6 x6) : Tab B w T N O :=
  ⟨vN, vO, rN, rO, h.bs, h.blk, h.oN, h.oO, h.ne, h.rowsN, h.rowsO⟩
theorem Tab.more {B : Nat} {w w' : World} {T : Nat} {N O : List (List Value)} (h : Tab B w T N O) (hb : Below w.heap.size w w') {v5 v6 : Value} {x5 x6 : List Value} (h5 : RowV w' 2 v5 x5) (h6 : RowV w' 2 v6 x6) :
    ∃ vN vO rN rO, TabM B w' T vN vO vN vO rN rO N O v5 x5 v6 x6 := by
  obtain ⟨vN, vO, rN, rO, h1, h2, h3, h4, h5', h6', h7⟩ := h.keep hb
  exact ⟨vN, vO, rN, rO, h1, h2, h3, h4, h5', h6', h7, h5, h6⟩
theorem Tab.start {B : Nat} {w : World} {T : Nat} (h : Blk w T [.slice none 0 0, .slice none 0 0] 168) (hB : B ≤ w.heap.size) : Tab B w T [] [] :=
  ⟨_, _, [], [], hB, h, World.ownsRow_nil _ _ _ _, World.ownsRow_nil _ _ _ _, .inl rfl, ⟨rfl, fun i v xs h => by simp at h⟩, ⟨rfl, fun i v xs h => by simp at h⟩⟩
end Go.Proofs.Yteagecoiijhflaa

/- What the laws ask of a result that is a slice of numbers. -/
namespace Go.Proofs.Yteagecoiijhflaa
open Go.RowKit
set_option linter.unusedVariables false
set_option linter.unusedSimpArgs false

/-- v is a slice of the numbers xs, in memory from B on that is its own -/
def OwnI (w : World) (B : Nat) (v : Value) (xs : List Int) : Prop := w.ownsRow B 2 1 v xs.length (i64s xs)
theorem OwnI.below {w w' : World} {B : Nat} {v : Value} {xs : List Int} (h : OwnI w B v xs) (hb : Below w.heap.size w w') : OwnI w' B v xs := by
  have hg : w.grownBy w' none := ⟨hb.os, hb.tape, hb.output, hb.size, fun k hk _ => hb.block k hk⟩
  exact World.ownsRow.kept h hg (by by_cases e : v.ownBlock = none <;> simp [e])
theorem OwnI.keep {w w' : World} {B C : Nat} {v : Value} {xs : List Int} (h : OwnI w B v xs) (hb : Below C w w') (hC : ∀ k, v.ownBlock = some k → k < C) : OwnI w' B v xs := by
  refine ⟨h.1, ?_⟩
  rcases h.2 with hn | ⟨g, cap, cur, rfl, h1, h2, rest⟩
  · exact .inl hn
  · exact .inr ⟨g, cap, cur, rfl, h1, (hb.block g (hC g rfl)).trans h2, rest⟩
theorem OwnI.less {w : World} {B C : Nat} {v : Value} {xs : List Int} (h : OwnI w B v xs) (hC : C ≤ B) : OwnI w C v xs := by
  refine ⟨h.1, ?_⟩
  rcases h.2 with hn | ⟨g, cap, cur, hv, h1, rest⟩
  · exact .inl hn
  · exact .inr ⟨g, cap, cur, hv, by omega, rest⟩
/-- its form -/
theorem OwnI.form {w : World} {B : Nat} {v : Value} {xs : List Int} (h : OwnI w B v xs) : ∃ a c, v = .slice a xs.length c ∧ IntsAt w a xs := by
  rcases h.2 with ⟨rfl, h0⟩ | ⟨g, cap, cur, rfl, h1, hg, h2, h3, h4, h5⟩
  · exact ⟨none, 0, by rw [h0], fun i hi => by omega⟩
  · refine ⟨some ⟨g, 0, none⟩, cap, rfl, fun i hi => ⟨g, 0, rfl, ?_⟩⟩
    rw [Nat.zero_add]
    have := World.ownsRow.cellAt h i (by omega)
    rw [this, i64s_get hi]

def marks (k n : Nat) : List Int := (List.range n).map fun i => ((k + i : Nat) : Int)
theorem marks_length (k n : Nat) : (marks k n).length = n := by simp [marks]

set_option maxHeartbeats 1000000 in
theorem eqI_any (a b : Option Addr) (c d : Nat) (xs ys : List Int) (hx : xs.length ≤ 2000000) (w : World) (ha : IntsAt w a xs) (hb : IntsAt w b ys) :
    Calls Try.prog 20 #[.slice a xs.length c, .slice b ys.length d] w (Ret (.bool (decide (xs = ys))) w) := by
  have HA := Lib.hid ha
  have HB := Lib.hid hb
  clear ha hb
  go_enter Try.func20, Try.ntmps20
  by_cases hl : xs.length = ys.length
  · have hle : ((xs.length : Int) == (ys.length : Int)) = true := by simp; omega
    have hln : ((xs.length : Int) != (ys.length : Int)) = false := by simp; omega
    go_wp2
    go_loopw [5] (fun i wr => ∃ k : Nat, k ≤ xs.length ∧ i = .int .i64 k ∧ Below w.heap.size w wr ∧ Hid (∀ j, j < k → xs[j]? = ys[j]?)) (fun i _ => xs.length - (intOf i).toNat)
    case atStart => exact ⟨0, Nat.zero_le _, rfl, Below.refl _ _, fun j hj => by omega⟩
    case round =>
      obtain ⟨k, hk, rfl, hb, HE⟩ := hrel
      by_cases hlt : k < xs.length
      · obtain ⟨g, off, rfl, hc⟩ := HA.out k hlt
        obtain ⟨g', off', rfl, hc'⟩ := HB.out k (by omega)
        rw [← hb.cell (p := ⟨g, off + k, none⟩) (World.block_lt_of_cell? w _ hc)] at hc
        rw [← hb.cell (p := ⟨g', off' + k, none⟩) (World.block_lt_of_cell? w _ hc')] at hc'
        have i1 : (0 : Int) ≤ (k : Int) := by omega
        have i2 : (k : Int) < (xs.length : Int) := by omega
        have i3 : (k : Int) < (ys.length : Int) := by omega
        have i4 : k < ys.length := by omega
        obtain ⟨x, hx⟩ : ∃ x, x = xs[k]?.getD 0 := ⟨_, rfl⟩
        obtain ⟨y, hy⟩ : ∃ y, y = ys[k]?.getD 0 := ⟨_, rfl⟩
        rw [← hx] at hc
        rw [← hy] at hc'
        by_cases e : x = y
        · have HN : Hid (∀ j, j < k + 1 → xs[j]? = ys[j]?) := fun j hj => by
            by_cases h : j = k
            · subst h
              rw [List.getElem?_eq_getElem hlt, List.getElem?_eq_getElem i4] at *
              simp only [Option.getD_some] at hx hy
              rw [← hx, ← hy, e]
            · exact HE.out j (by omega)
          subst e
          clear hx hy
          go_wp2
          go_quiet (fail)
          go_wp2
          go_roundw
          case rel => exact ⟨k + 1, by omega, by go_num, below_dN hb _, HN⟩
          case measure => simp [intOf]; omega
        · have H : Hid (decide (xs = ys) = false) := by
            show _ = _
            simp only [decide_eq_false_iff_not]; intro h; rw [h] at hx; exact e (hx.trans hy.symm)
          have e' : (x != y) = true := by simpa using e
          clear e hx hy
          go_wp2
          go_quiet (fail)
          go_wp2
          go_ret
          exact ⟨ret_bool H.out.symm, below_dN hb _⟩
      · have H : Hid (decide (xs = ys) = true) := by
          show _ = _
          simp only [decide_eq_true_eq]
          apply List.ext_getElem?
          intro j
          by_cases hj : j < k
          · exact HE.out j hj
          · rw [List.getElem?_eq_none (by omega), List.getElem?_eq_none (by omega)]
        go_wp2
        go_ret
        exact ⟨ret_bool H.out.symm, hb⟩
  · have H : Hid (decide (xs = ys) = false) := by
      show _ = _
      simp only [decide_eq_false_iff_not]; intro e; rw [e] at hl; exact hl rfl
    have hle : ((xs.length : Int) == (ys.length : Int)) = false := by simp; omega
    have hln : ((xs.length : Int) != (ys.length : Int)) = true := by simp; omega
    clear hl
    go_wp2_with fail
    go_ret
    exact ⟨ret_bool H.out.symm, Below.refl _ _⟩

theorem eqI_same (a b : Option Addr) (c d : Nat) (xs : List Int) (hx : xs.length ≤ 2000000) (w : World) (ha : IntsAt w a xs) (hb : IntsAt w b xs) :
    Calls Try.prog 20 #[.slice a xs.length c, .slice b xs.length d] w (Ret (.bool true) w) := by
  have := eqI_any a b c d xs xs hx w ha hb
  rwa [show decide (xs = xs) = true from by simp] at this

/-- i numbers marked, from k on; the rest as it was -/
def mixM (k i : Nat) (xs : List Int) : List Int := marks k i ++ xs.drop i
theorem mixM_length (k i : Nat) (xs : List Int) (h : i ≤ xs.length) : (mixM k i xs).length = xs.length := by simp [mixM, marks_length]; omega
theorem mixM_succ (k i : Nat) (xs : List Int) (h : i < xs.length) : (i64s (mixM k i xs)).set i (.int .i64 ((k + i : Nat) : Int)) = i64s (mixM k (i + 1) xs) := by
  have e : marks k (i + 1) = marks k i ++ [((k + i : Nat) : Int)] := by simp [marks, List.range_succ]
  simp only [mixM, i64s, e, List.map_append]
  rw [List.set_append_right _ _ (by simp [marks_length]), List.append_assoc]
  congr 1
  rw [show i - ((marks k i).map (Value.int .i64)).length = 0 by simp [marks_length], List.drop_eq_getElem_cons h, List.map_cons, List.set_cons_zero]
  rfl
theorem mixM_all (k : Nat) (xs : List Int) : mixM k xs.length xs = marks k xs.length := by simp [mixM]
theorem marks_get {k n i : Nat} (h : i < n) : (marks k n)[i]?.getD 0 = ((k + i : Nat) : Int) := by simp [marks, h]

set_option maxHeartbeats 1000000 in
theorem markI_any (B : Nat) (v : Value) (xs : List Int) (k : Nat) (hx : xs.length ≤ 1000000) (hk : k ≤ 1000000) (w : World) (hB : B ≤ w.heap.size) (h : OwnI w B v xs) :
    Calls Try.prog 21 #[v, .int .i64 (k : Int)] w fun e w' => e = .returned (.int .i64 ((k + xs.length : Nat) : Int)) ∧ Below B w w' ∧ OwnI w' B v (marks k xs.length) := by
  obtain ⟨a, c, rfl, -⟩ := h.form
  have H0 : Hid (OwnI w B (.slice a xs.length c) (mixM k 0 xs)) := by
    show OwnI _ _ _ _
    simpa [mixM, marks] using h
  clear h
  go_enter Try.func21, Try.ntmps21
  go_wp2
  go_loopw [1, 5] (fun u i wr => ∃ j : Nat, j ≤ xs.length ∧ i = .int .i64 j ∧ u = .int .i64 ((k + j : Nat) : Int) ∧ Below B w wr ∧ Hid (OwnI wr B (.slice a xs.length c) (mixM k j xs))) (fun _ i _ => xs.length - (intOf i).toNat)
  case atStart => exact ⟨0, Nat.zero_le _, rfl, rfl, Below.refl _ _, H0⟩
  case round =>
    clear H0
    obtain ⟨j, hj, rfl, rfl, hb, HO⟩ := hrel
    by_cases hlt : j < xs.length
    · have hO := HO.out
      have hlen := mixM_length k j xs hj
      obtain ⟨g, rfl, hgB⟩ : ∃ g, a = some ⟨g, 0, none⟩ ∧ B ≤ g := by
        rcases hO.2 with ⟨_, e⟩ | ⟨g, cap, cur, hv, h1, rest⟩
        · omega
        · simp at hv; exact ⟨g, hv.1, h1⟩
      have hO' : wr.ownsRow B 2 1 (.slice (some ⟨g, 0, none⟩) xs.length c) xs.length (i64s (mixM k j xs)) := by
        have := hO; rw [OwnI, hlen] at this; exact this
      have hcell := hO'.cellAt j (by omega)
      rw [i64s_get (by omega)] at hcell
      have hfz := hO'.frozenAt j
      have hset : Hid (OwnI (wr.setCell ⟨g, j, none⟩ (.int .i64 ((k + j : Nat) : Int))) B (.slice (some ⟨g, 0, none⟩) xs.length c) (mixM k (j + 1) xs)) := by
        have := (hO'.stored j (.int .i64 ((k + j : Nat) : Int))).1
        rw [mixM_succ k j xs hlt] at this
        show World.ownsRow _ _ _ _ _ _ _
        rw [mixM_length k (j + 1) xs hlt]
        exact this
      have hb' := hb.setCell (p := ⟨g, j, none⟩) hgB (.int .i64 ((k + j : Nat) : Int))
      have i1 : (0 : Int) ≤ (j : Int) := by omega
      have i2 : (j : Int) < (xs.length : Int) := by omega
      obtain ⟨z, hz⟩ : ∃ z, (mixM k j xs)[j]?.getD 0 = z := ⟨_, rfl⟩
      rw [hz] at hcell
      clear hz hO hO' hlen
      go_wp2
      go_roundw
      case rel => exact ⟨j + 1, by omega, by go_num, by go_num, hb', hset⟩
      case measure => simp [intOf]; omega
    · have hj' : j = xs.length := by omega
      subst hj'
      rw [mixM_all] at HO
      go_wp2
      go_ret
      exact ⟨rfl, hb, HO.out⟩

set_option maxHeartbeats 1000000 in
theorem heldI_any (B : Nat) (v : Value) (k n : Nat) (hx : n ≤ 1000000) (hk : k ≤ 1000000) (w : World) (h : OwnI w B v (marks k n)) :
    Calls Try.prog 22 #[v, .int .i64 (k : Int)] w (Ret (.int .i64 ((k + n : Nat) : Int)) w) := by
  obtain ⟨a, c, rfl, hI⟩ := h.form
  rw [marks_length]
  have HI := Lib.hid hI
  clear h hI
  go_enter Try.func22, Try.ntmps22
  go_wp2
  go_loopw [1, 5] (fun u i wr => ∃ j : Nat, j ≤ n ∧ i = .int .i64 j ∧ u = .int .i64 ((k + j : Nat) : Int) ∧ Below w.heap.size w wr) (fun _ i _ => n - (intOf i).toNat)
  case atStart => exact ⟨0, Nat.zero_le _, rfl, rfl, Below.refl _ _⟩
  case round =>
    obtain ⟨j, hj, rfl, rfl, hb⟩ := hrel
    by_cases hlt : j < n
    · obtain ⟨g, off, rfl, hc⟩ := HI.out j (by rw [marks_length]; exact hlt)
      rw [← hb.cell (p := ⟨g, off + j, none⟩) (World.block_lt_of_cell? w _ hc), marks_get hlt] at hc
      have i1 : (0 : Int) ≤ (j : Int) := by omega
      have i2 : (j : Int) < (n : Int) := by omega
      go_wp2
      go_roundw
      case rel => exact ⟨j + 1, by omega, by go_num, by go_num, hb⟩
      case measure => simp [intOf]; omega
    · have hj' : j = n := by omega
      subst hj'
      go_wp2
      go_ret
      exact ⟨rfl, hb⟩
end Go.Proofs.Yteagecoiijhflaa
