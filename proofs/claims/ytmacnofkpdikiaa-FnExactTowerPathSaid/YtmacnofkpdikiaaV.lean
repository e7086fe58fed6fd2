/- Codes of machines, words and states; looking for an element by a function. -/
import Derived.Test.YtmacnofkpdikiaaD
import Derived.Test.YtmacnofkpdikiaaN
namespace Go.Proofs.Ytmacnofkpdikiaa
open Go.RowKit
set_option linter.unusedVariables false
set_option linter.unusedSimpArgs false

theorem out_nat (b o : Nat) (m : Mch) (hwf : m.Wf) (q x : Nat) (hq : q < 16) (hx : x < 3) (w : World) (hm : MAt w b o m) :
    Calls Try.prog 110 #[.pointer (some ⟨b, o, none⟩), .int .i64 q, .int .i64 x] w fun e w' => e = .returned (.int .i64 (m.o q x)) ∧ w = w' := by
  have e3 := hm.oo hwf hq hx
  have b3 : 0 ≤ m.o q x ∧ m.o q x ≤ 255 := hwf.ob (q * 3 + x)
  have i1 : (q : Int) < 16 := by omega
  have i2 : (x : Int) < 3 := by omega
  go_enter Try.func110, Try.ntmps110
  go_wp2
  go_ret
  exact ⟨rfl, rfl⟩

theorem next_nat (b o : Nat) (m : Mch) (hwf : m.Wf) (q x : Nat) (hq : q < 16) (hx : x < 3) (w : World) (hm : MAt w b o m) :
    Calls Try.prog 111 #[.pointer (some ⟨b, o, none⟩), .int .i64 q, .int .i64 x] w fun e w' => e = .returned (.int .i64 (m.n q x)) ∧ w = w' := by
  have e3 := hm.nn hwf hq hx
  have b3 : 0 ≤ m.n q x ∧ m.n q x ≤ 255 := hwf.nb (q * 3 + x)
  have i1 : (q : Int) < 16 := by omega
  have i2 : (x : Int) < 3 := by omega
  go_enter Try.func111, Try.ntmps111
  go_wp2
  go_ret
  exact ⟨rfl, rfl⟩

theorem out_any (b o : Nat) (m : Mch) (hwf : m.Wf) (q x : Int) (hq : 0 ≤ q ∧ q < 16) (hx : 0 ≤ x ∧ x < 3) (w : World) (hm : MAt w b o m) :
    Calls Try.prog 110 #[.pointer (some ⟨b, o, none⟩), .int .i64 q, .int .i64 x] w fun e w' => e = .returned (.int .i64 (m.o q.toNat x.toNat)) ∧ w = w' := by
  have := out_nat b o m hwf q.toNat x.toNat (by omega) (by omega) w hm
  rwa [Int.toNat_of_nonneg hq.1, Int.toNat_of_nonneg hx.1] at this
theorem next_any (b o : Nat) (m : Mch) (hwf : m.Wf) (q x : Int) (hq : 0 ≤ q ∧ q < 16) (hx : 0 ≤ x ∧ x < 3) (w : World) (hm : MAt w b o m) :
    Calls Try.prog 111 #[.pointer (some ⟨b, o, none⟩), .int .i64 q, .int .i64 x] w fun e w' => e = .returned (.int .i64 (m.n q.toNat x.toNat)) ∧ w = w' := by
  have := next_nat b o m hwf q.toNat x.toNat (by omega) (by omega) w hm
  rwa [Int.toNat_of_nonneg hq.1, Int.toNat_of_nonneg hx.1] at this

theorem isState_any (b o : Nat) (m : Mch) (hwf : m.Wf) (hok : m.Ok) (q : Int) (w : World) (hm : MAt w b o m) :
    Calls Try.prog 109 #[.pointer (some ⟨b, o, none⟩), .int .i64 q] w fun e w' => e = .returned (.bool (inR q 0 (m.S - 1))) ∧ w = w' := by
  have e3 := hm.s
  have h1 := hok.s1
  have h2 := hok.s16
  go_enter Try.func109, Try.ntmps109
  go_wp2_with (go_at_call 56; refine (within_any _ _ _ _).mono ?_; rintro e w' ⟨rfl, rfl⟩)
  go_ret
  exact ⟨rfl, rfl⟩

/-- function k is entered by a call -/
def Enters (k : Nat) : Prop := ∀ args w, Sem.run Try.prog (callFunc k args) w = .ok (.enter k args) w
theorem enters_codeOf : Enters 108 := fun args w => by kernel_rfl

/-- a slice of ints that reads as xs -/
def IntsAt (w : World) (a : Option Addr) (xs : List Int) : Prop := ∀ i, i < xs.length → ∃ b off, a = some ⟨b, off, none⟩ ∧ w.cell? ⟨b, off + i, none⟩ = some (.int .i64 (xs[i]?.getD 0))
theorem IntsAt.keep {w w' : World} {a : Option Addr} {xs : List Int} (h : IntsAt w a xs) (hb : Below w.heap.size w w') : IntsAt w' a xs := fun i hi => by
  obtain ⟨b, off, ha, hc⟩ := h i hi
  exact ⟨b, off, ha, (hb.cell (p := ⟨b, off + i, none⟩) (World.block_lt_of_cell? w _ hc)).trans hc⟩

theorem IntsAt.below {w w' : World} {a : Option Addr} {xs : List Int} (h : IntsAt w a xs) (hb : Below w.heap.size w w') : IntsAt w' a xs := h.keep hb

/-- the first place at which p holds, or -1 -/
def idxP {α : Type} (p : α → Bool) (xs : List α) : Int := match xs.findIdx? p with | some i => (i : Int) | none => -1
theorem idxP_hit {α : Type} {p : α → Bool} {xs : List α} {k : Nat} (hk : k < xs.length) (h1 : p xs[k] = true) (h2 : ∀ j (hj : j < k), p (xs[j]'(by omega)) = false) : idxP p xs = k := by
  have : xs.findIdx? p = some k := by
    rw [List.findIdx?_eq_some_iff_getElem]
    exact ⟨hk, h1, fun j hj => by simp [h2 j hj]⟩
  rw [idxP, this]
theorem idxP_none {α : Type} {p : α → Bool} {xs : List α} (h : ∀ j (hj : j < xs.length), p xs[j] = false) : idxP p xs = -1 := by
  have : xs.findIdx? p = none := by
    rw [List.findIdx?_eq_none_iff]
    intro x hx
    obtain ⟨j, hj, rfl⟩ := List.mem_iff_getElem.1 hx
    exact h j hj
  rw [idxP, this]
theorem idxP_ge {α : Type} (p : α → Bool) (xs : List α) : decide (0 ≤ idxP p xs) = xs.any p := by
  unfold idxP
  cases h : xs.findIdx? p with
  | none =>
    rw [List.findIdx?_eq_none_iff] at h
    have : xs.any p = false := by rw [List.any_eq_false]; intro x hx; simp [h x hx]
    rw [this]; rfl
  | some i =>
    rw [List.findIdx?_eq_some_iff_getElem] at h
    obtain ⟨hi, h1, _⟩ := h
    have : xs.any p = true := List.any_eq_true.2 ⟨_, List.getElem_mem hi, h1⟩
    rw [this]
    simp only [decide_eq_true_eq]
    omega

set_option maxRecDepth 100000 in
set_option maxHeartbeats 1000000 in
theorem indexFuncI_any (k : Nat) (hent : Enters k) (cap : Array Value) (a : Option Addr) (xs : List Int) (c : Nat) (hn : xs.length ≤ 10000) (p : Int → Bool) (w : World) (R : World → Prop) (hR : R w)
    (hc : ∀ w', R w' → IntsAt w' a xs) (hf : ∀ w', R w' → ∀ i (hi : i < xs.length), Calls Try.prog k (#[.int .i64 (xs[i])] ++ cap) w' fun e w'' => e = .returned (.bool (p xs[i])) ∧ R w'') :
    Calls Try.prog 130 #[.slice a xs.length c, .func (.func k) #[] cap] w fun e w' => e = .returned (.int .i64 (idxP p xs)) ∧ R w' := by
  have hent' : ∀ args w, Sem.run Try.prog (callFunc k args) w = .ok (.enter k args) w := hent
  have HC := Lib.hid hc
  have HF := Lib.hid hf
  clear hc hf hent
  go_enter Try.func130, Try.ntmps130
  go_wp2
  go_loopw [4, 8] (fun r i wr => ∃ j : Nat, j ≤ xs.length ∧ i = .int .i64 j ∧ r = .int .i64 0 ∧ Hid (R wr) ∧ Hid (∀ i (hi : i < xs.length), i < j → p xs[i] = false)) (fun _ i _ => xs.length - (intOf i).toNat)
  case atStart => exact ⟨0, Nat.zero_le _, rfl, rfl, hR, fun i hi h => by omega⟩
  case round =>
    obtain ⟨j, hj, rfl, rfl, hRr, hI⟩ := hrel
    by_cases hlt : j < xs.length
    · obtain ⟨b, off, rfl, hcell⟩ := HC.out _ hRr.out j hlt
      rw [List.getElem?_eq_getElem hlt, Option.getD_some] at hcell
      have i1 : (j : Int) < xs.length := by omega
      have i2 : (0 : Int) ≤ (j : Int) := by omega
      obtain ⟨x, hx⟩ : ∃ x, x = xs[j] := ⟨_, rfl⟩
      have hcall := Lib.hid (HF.out _ hRr.out j hlt)
      rw [← hx] at hcell hcall
      have HXX := Lib.hid hx
      clear hx
      go_wp2_with fail
      refine hcall.out.mono ?_
      rintro e w1 ⟨rfl, hR1⟩
      cases hp : p x
      · have HJ := Lib.hid (show ∀ i (hi : i < xs.length), i < j + 1 → p xs[i] = false from fun i hi h => by
          by_cases e : i = j
          · subst e; rw [← HXX.out]; exact hp
          · exact hI.out i hi (by omega))
        have HR1 := Lib.hid hR1
        clear hp hR1
        go_wp2
        go_roundw
        case rel => exact ⟨j + 1, by omega, by go_num, rfl, HR1, HJ.out⟩
        case measure => simp [intOf]; omega
      · have HJ := Lib.hid (idxP_hit hlt (by rw [← HXX.out]; exact hp) (fun i hi => hI.out i (by omega) hi))
        have HR1 := Lib.hid hR1
        clear hp hR1
        go_wp2
        go_ret
        exact ⟨ret_int HJ.out.symm, HR1.out⟩
    · have HJ := Lib.hid (idxP_none (p := p) (xs := xs) (fun i hi => hI.out i hi (by omega)))
      have hj' : ¬ (j : Int) < xs.length := by omega
      go_wp2
      go_ret
      exact ⟨ret_int HJ.out.symm, hRr.out⟩

set_option maxHeartbeats 1000000 in
theorem containsFuncI_any (k : Nat) (hent : Enters k) (cap : Array Value) (a : Option Addr) (xs : List Int) (c : Nat) (hn : xs.length ≤ 10000) (p : Int → Bool) (w : World) (R : World → Prop) (hR : R w)
    (hc : ∀ w', R w' → IntsAt w' a xs) (hf : ∀ w', R w' → ∀ i (hi : i < xs.length), Calls Try.prog k (#[.int .i64 (xs[i])] ++ cap) w' fun e w'' => e = .returned (.bool (p xs[i])) ∧ R w'') :
    Calls Try.prog 103 #[.slice a xs.length c, .func (.func k) #[] cap] w fun e w' => e = .returned (.bool (xs.any p)) ∧ R w' := by
  have HE := Lib.hid hent
  have HC := Lib.hid hc
  have HF := Lib.hid hf
  have HN := Lib.hid hn
  have HR := Lib.hid hR
  clear hc hf hn hR hent
  go_enter Try.func103, Try.ntmps103
  go_wp2_with fail
  refine (indexFuncI_any k HE.out cap a xs c HN.out p w R HR.out HC.out HF.out).mono ?_
  rintro e w1 ⟨rfl, hR1⟩
  have HR1 := Lib.hid hR1
  clear hR1
  go_wp2
  go_ret
  exact ⟨ret_bool (idxP_ge p xs), HR1.out⟩

end Go.Proofs.Ytmacnofkpdikiaa
