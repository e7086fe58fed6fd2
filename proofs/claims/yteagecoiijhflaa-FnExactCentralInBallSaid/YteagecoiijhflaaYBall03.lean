import Derived.Test.YteagecoiijhflaaYBall02
import Derived.Test.YteagecoiijhflaaYBall01
import Derived.Lib.ConvBytes
import Derived.Laws.BytesArg
/- Codes of machines, words and states; looking for an element by a function. -/
namespace Go.Proofs.Yteagecoiijhflaa
open Go.RowKit
set_option linter.unusedVariables false
set_option linter.unusedSimpArgs false

theorem out_nat (b o : Nat) (m : Mch) (hwf : m.Wf) (q x : Nat) (hq : q < 16) (hx : x < 3) (w : World) (hm : MAt w b o m) :
    Calls Try.prog 133 #[.pointer (some ⟨b, o, none⟩), .int .i64 q, .int .i64 x] w fun e w' => e = .returned (.int .i64 (m.o q x)) ∧ w = w' := by
  have e3 := hm.oo hwf hq hx
  have b3 : 0 ≤ m.o q x ∧ m.o q x ≤ 255 := hwf.ob (q * 3 + x)
  have i1 : (q : Int) < 16 := by omega
  have i2 : (x : Int) < 3 := by omega
  go_enter Try.func133, Try.ntmps133
  go_wp2
  go_ret
  exact ⟨rfl, rfl⟩

theorem next_nat (b o : Nat) (m : Mch) (hwf : m.Wf) (q x : Nat) (hq : q < 16) (hx : x < 3) (w : World) (hm : MAt w b o m) :
    Calls Try.prog 132 #[.pointer (some ⟨b, o, none⟩), .int .i64 q, .int .i64 x] w fun e w' => e = .returned (.int .i64 (m.n q x)) ∧ w = w' := by
  have e3 := hm.nn hwf hq hx
  have b3 : 0 ≤ m.n q x ∧ m.n q x ≤ 255 := hwf.nb (q * 3 + x)
  have i1 : (q : Int) < 16 := by omega
  have i2 : (x : Int) < 3 := by omega
  go_enter Try.func132, Try.ntmps132
  go_wp2
  go_ret
  exact ⟨rfl, rfl⟩

theorem out_any (b o : Nat) (m : Mch) (hwf : m.Wf) (q x : Int) (hq : 0 ≤ q ∧ q < 16) (hx : 0 ≤ x ∧ x < 3) (w : World) (hm : MAt w b o m) :
    Calls Try.prog 133 #[.pointer (some ⟨b, o, none⟩), .int .i64 q, .int .i64 x] w fun e w' => e = .returned (.int .i64 (m.o q.toNat x.toNat)) ∧ w = w' := by
  have := out_nat b o m hwf q.toNat x.toNat (by omega) (by omega) w hm
  rwa [Int.toNat_of_nonneg hq.1, Int.toNat_of_nonneg hx.1] at this
theorem next_any (b o : Nat) (m : Mch) (hwf : m.Wf) (q x : Int) (hq : 0 ≤ q ∧ q < 16) (hx : 0 ≤ x ∧ x < 3) (w : World) (hm : MAt w b o m) :
    Calls Try.prog 132 #[.pointer (some ⟨b, o, none⟩), .int .i64 q, .int .i64 x] w fun e w' => e = .returned (.int .i64 (m.n q.toNat x.toNat)) ∧ w = w' := by
  have := next_nat b o m hwf q.toNat x.toNat (by omega) (by omega) w hm
  rwa [Int.toNat_of_nonneg hq.1, Int.toNat_of_nonneg hx.1] at this

/-- function k is entered by a call -/
def Enters (k : Nat) : Prop := ∀ args w, Sem.run Try.prog (callFunc k args) w = .ok (.enter k args) w
/-- a slice of ints that reads as xs -/
def IntsAt (w : World) (a : Option Addr) (xs : List Int) : Prop := ∀ i, i < xs.length → ∃ b off, a = some ⟨b, off, none⟩ ∧ w.cell? ⟨b, off + i, none⟩ = some (.int .i64 (xs[i]?.getD 0))
theorem IntsAt.keep {w w' : World} {a : Option Addr} {xs : List Int} (h : IntsAt w a xs) (hb : Below w.heap.size w w') : IntsAt w' a xs := fun i hi => by
  obtain ⟨b, off, ha, hc⟩ := h i hi
  exact ⟨b, off, ha, (hb.cell (p := ⟨b, off + i, none⟩) (World.block_lt_of_cell? w _ hc)).trans hc⟩

theorem IntsAt.below {w w' : World} {a : Option Addr} {xs : List Int} (h : IntsAt w a xs) (hb : Below w.heap.size w w') : IntsAt w' a xs := h.keep hb

/-- the first place at which p holds, or -1 -/
def idxP {α : Type} (p : α → Bool) (xs : List α) : Int := match xs.findIdx? p with | some i => (i : Int) | none => -1
theorem idxP_hit {α : Type} {p : α → Bool} {xs : List α} {k : Nat} (hk : k < xs.length) (h1 : p xs[k] = true) (h2 : ∀ j (hj : j < k), p (xs[j]'(by omega)) = false) : idxP p xs = k := by
  have : xs.findIdx? p = some k := by
    rw [List.findIdx?_eq_some_iff_getElem]
    exact ⟨hk, h1, fun j hj => by simp [h2 j hj]⟩
  rw [idxP, this]
theorem idxP_none {α : Type} {p : α → Bool} {xs : List α} (h : ∀ j (hj : j < xs.length), p xs[j] = false) : idxP p xs = -1 := by
  have : xs.findIdx? p = none := by
    rw [List.findIdx?_eq_none_iff]
    intro x hx
    obtain ⟨j, hj, rfl⟩ := List.mem_iff_getElem.1 hx
    exact h j hj
  rw [idxP, this]
theorem idxP_ge {α : Type} (p : α → Bool) (xs : List α) : decide (0 ≤ idxP p xs) = xs.any p := by
  unfold idxP
  cases h : xs.findIdx? p with
  | none =>
    rw [List.findIdx?_eq_none_iff] at h
    have : xs.any p = false := by rw [List.any_eq_false]; intro x hx; simp [h x hx]
    rw [this]; rfl
  | some i =>
    rw [List.findIdx?_eq_some_iff_getElem] at h
    obtain ⟨hi, h1, _⟩ := h
    have : xs.any p = true := List.any_eq_true.2 ⟨_, List.getElem_mem hi, h1⟩
    rw [this]
    simp only [decide_eq_true_eq]
    omega

set_option maxRecDepth 100000 in
set_option maxHeartbeats 1000000 in
theorem indexFuncI_any (k : Nat) (hent : Enters k) (cap : Array Value) (a : Option Addr) (xs : List Int) (c : Nat) (hn : xs.length ≤ 10000) (p : Int → Bool) (w : World) (R : World → Prop) (hR : R w)
    (hc : ∀ w', R w' → IntsAt w' a xs) (hf : ∀ w', R w' → ∀ i (hi : i < xs.length), Calls Try.prog k (#[.int .i64 (xs[i])] ++ cap) w' fun e w'' => e = .returned (.bool (p xs[i])) ∧ R w'') :
    Calls Try.prog 150 #[.slice a xs.length c, .func (.func k) #[] cap] w fun e w' => e = .returned (.int .i64 (idxP p xs)) ∧ R w' := by
  have hent' : ∀ args w, Sem.run Try.prog (callFunc k args) w = .ok (.enter k args) w := hent
  have HC := Lib.hid hc
  have HF := Lib.hid hf
  clear hc hf hent
  go_enter Try.func150, Try.ntmps150
  go_wp2
  go_loopw [4, 8] (fun r i wr => ∃ j : Nat, j ≤ xs.length ∧ i = .int .i64 j ∧ r = .int .i64 0 ∧ Hid (R wr) ∧ Hid (∀ i (hi : i < xs.length), i < j → p xs[i] = false)) (fun _ i _ => xs.length - (intOf i).toNat)
  case atStart => exact ⟨0, Nat.zero_le _, rfl, rfl, hR, fun i hi h => by omega⟩
  case round =>
    obtain ⟨j, hj, rfl, rfl, hRr, hI⟩ := hrel
    by_cases hlt : j < xs.length
    · obtain ⟨b, off, rfl, hcell⟩ := HC.out _ hRr.out j hlt
      rw [List.getElem?_eq_getElem hlt, Option.getD_some] at hcell
      have i1 : (j : Int) < xs.length := by omega
      have i2 : (0 : Int) ≤ (j : Int) := by omega
      obtain ⟨x, hx⟩ : ∃ x, x = xs[j] := ⟨_, rfl⟩
      have hcall := Lib.hid (HF.out _ hRr.out j hlt)
      rw [← hx] at hcell hcall
      have HXX := Lib.hid hx
      clear hx
      go_wp2_with fail
      refine hcall.out.mono ?_
      rintro e w1 ⟨rfl, hR1⟩
      cases hp : p x
      · have HJ := Lib.hid (show ∀ i (hi : i < xs.length), i < j + 1 → p xs[i] = false from fun i hi h => by
          by_cases e : i = j
          · subst e; rw [← HXX.out]; exact hp
          · exact hI.out i hi (by omega))
        have HR1 := Lib.hid hR1
        clear hp hR1
        go_wp2
        go_roundw
        case rel => exact ⟨j + 1, by omega, by go_num, rfl, HR1, HJ.out⟩
        case measure => simp [intOf]; omega
      · have HJ := Lib.hid (idxP_hit hlt (by rw [← HXX.out]; exact hp) (fun i hi => hI.out i (by omega) hi))
        have HR1 := Lib.hid hR1
        clear hp hR1
        go_wp2
        go_ret
        exact ⟨ret_int HJ.out.symm, HR1.out⟩
    · have HJ := Lib.hid (idxP_none (p := p) (xs := xs) (fun i hi => hI.out i hi (by omega)))
      have hj' : ¬ (j : Int) < xs.length := by omega
      go_wp2
      go_ret
      exact ⟨ret_int HJ.out.symm, hRr.out⟩

set_option maxHeartbeats 1000000 in
theorem containsFuncI_any (k : Nat) (hent : Enters k) (cap : Array Value) (a : Option Addr) (xs : List Int) (c : Nat) (hn : xs.length ≤ 10000) (p : Int → Bool) (w : World) (R : World → Prop) (hR : R w)
    (hc : ∀ w', R w' → IntsAt w' a xs) (hf : ∀ w', R w' → ∀ i (hi : i < xs.length), Calls Try.prog k (#[.int .i64 (xs[i])] ++ cap) w' fun e w'' => e = .returned (.bool (p xs[i])) ∧ R w'') :
    Calls Try.prog 126 #[.slice a xs.length c, .func (.func k) #[] cap] w fun e w' => e = .returned (.bool (xs.any p)) ∧ R w' := by
  have HE := Lib.hid hent
  have HC := Lib.hid hc
  have HF := Lib.hid hf
  have HN := Lib.hid hn
  have HR := Lib.hid hR
  clear hc hf hn hR hent
  go_enter Try.func126, Try.ntmps126
  go_wp2_with fail
  refine (indexFuncI_any k HE.out cap a xs c HN.out p w R HR.out HC.out HF.out).mono ?_
  rintro e w1 ⟨rfl, hR1⟩
  have HR1 := Lib.hid hR1
  clear hR1
  go_wp2
  go_ret
  exact ⟨ret_bool (idxP_ge p xs), HR1.out⟩

end Go.Proofs.Yteagecoiijhflaa

/- The reference's IsMachine. -/
namespace Go.Proofs.Yteagecoiijhflaa
open Go.RowKit
set_option linter.unusedVariables false
set_option linter.unusedSimpArgs false

/-- the letters that a state has put out before x -/
def metB (m : Mch) (q k v : Nat) : Bool := (List.range k).any fun y => decide (m.o q y = (v : Int))
theorem metB_all {m : Mch} {q k o : Nat} (ho : m.o q k = (o : Int)) : ((List.range k).all fun y => m.o q y != m.o q k) = !metB m q k o := by
  rw [metB, List.not_any_eq_all_not, ho]
  congr 1
theorem metB_succ {m : Mch} {q k o : Nat} (ho : m.o q k = (o : Int)) (v : Nat) : metB m q (k + 1) v = (metB m q k v || decide (v = o)) := by
  simp only [metB, List.range_succ, List.any_append, List.any_cons, List.any_nil, Bool.or_false, ho]
  congr 1
  simp
  omega

/-- the array of the letters met, at block B -/
structure MetAt (w : World) (B : Nat) (m : Mch) (q j : Nat) : Prop where
  val : ∀ v, v < 3 → (q : Int) < m.S → (j : Int) ≤ m.L → w.cell? ⟨B, v, none⟩ = some (.bool (metB m q j v))
  some : ∀ v, v < 3 → ∃ u, w.cell? ⟨B, v, none⟩ = some (.bool u)
  free : ∀ v, v < 3 → w.frozen? ⟨B, v, none⟩ = false

theorem MetAt.step {w : World} {B : Nat} {m : Mch} {q j o : Nat} (h : MetAt w B m q j) (ho : m.o q j = (o : Int)) (h3 : o < 3) (n : Nat) :
    MetAt ((w.drewN n).setCell ⟨B, o, none⟩ (.bool true)) B m q (j + 1) := by
  have hc : ∀ v, v < 3 → v ≠ o → ((w.drewN n).setCell ⟨B, o, none⟩ (.bool true)).cell? ⟨B, v, none⟩ = w.cell? ⟨B, v, none⟩ := fun v hv hne =>
    World.cell?_setCell_other _ _ _ _ (by simp only [ne_eq, Addr.mk.injEq, true_and, and_true]; omega)
  have hs : ((w.drewN n).setCell ⟨B, o, none⟩ (.bool true)).cell? ⟨B, o, none⟩ = Option.some (.bool true) := by
    obtain ⟨u, hu⟩ := h.some o h3
    exact World.cell?_setCell_same _ _ _ (u := .bool u) hu
  refine ⟨fun v hv a c => ?_, fun v hv => ?_, fun v hv => ?_⟩
  · rw [metB_succ ho]
    by_cases e : v = o
    · subst e; rw [hs]; simp
    · rw [hc v hv e, h.val v hv a (by omega)]; simp [e]
  · by_cases e : v = o
    · subst e; exact ⟨true, hs⟩
    · rw [hc v hv e]; exact h.some v hv
  · have := h.free v hv
    simpa using this

theorem MetAt.idle {w : World} {B : Nat} {m : Mch} {q j : Nat} (h : MetAt w B m q j) (hn : ¬ ((q : Int) < m.S ∧ (j : Int) < m.L)) (n : Nat) : MetAt (w.drewN n) B m q (j + 1) :=
  ⟨fun v hv a c => absurd ⟨a, by omega⟩ hn, h.some, h.free⟩

theorem MetAt.zero (w : World) (m : Mch) (q T : Nat) (B : Nat) (hB : B = w.heap.size) : MetAt (w.alloc (.cells #[.bool false, .bool false, .bool false] T)) B m q 0 := by
  subst hB
  refine ⟨fun v hv _ _ => ?_, fun v hv => ⟨false, ?_⟩, fun v hv => ?_⟩
  · rw [World.cell?_alloc_at _ _ _ _ rfl]
    match v, hv with | 0, _ => rfl | 1, _ => rfl | 2, _ => rfl
  · rw [World.cell?_alloc_at _ _ _ _ rfl]
    match v, hv with | 0, _ => rfl | 1, _ => rfl | 2, _ => rfl
  · rw [World.frozen?_alloc_at _ _ _ _ rfl]

set_option maxHeartbeats 4000000 in
theorem l01Is_any (m : Mch) (hwf : m.Wf) (w : World) :
    Calls Try.prog 64 #[.agg m.cells.toArray] w (Ret (.bool (machP m)) w) := by
  have hm := MAt.boxed w m 29
  have hl : (w.alloc (.cells m.cells.toArray 29)).cell? ⟨w.heap.size, 0, none⟩ = some (.int .i64 m.L) := hm.l
  have hs : (w.alloc (.cells m.cells.toArray 29)).cell? ⟨w.heap.size, 1, none⟩ = some (.int .i64 m.S) := hm.s
  have hb0 : Below w.heap.size w (w.alloc (.cells m.cells.toArray 29)) := (Below.refl _ _).alloc (Nat.le_refl _) _
  have HF : Hid (inR m.L 2 3 = false → machP m = false) := fun h => by simp [machP, h]
  have HF2 : Hid (inR m.S 1 16 = false → machP m = false) := fun h => by simp [machP, h]
  by_cases c1 : inR m.L 2 3 = true
  · by_cases c2 : inR m.S 1 16 = true
    · have hL : m.L ≤ 3 := by simp [inR] at c1; omega
      have HT : Hid (rowsUpto m 16 = true → machP m = true) := fun h => by simp [machP, c1, c2]; simpa [rowsUpto] using h
      obtain ⟨mb, hmb⟩ : ∃ mb, mb = w.heap.size := ⟨_, rfl⟩
      go_enter Try.func64, Try.ntmps64
      go_wp2_with (go_at_call 54; refine (l01In_any _ _ _ _).mono ?_; rintro e w' ⟨rfl, rfl⟩)
      go_loopw [2, 3] (fun r x wr => ∃ k : Nat, k ≤ 16 ∧ x = .int .i64 k ∧ Hid (rowsUpto m k = true) ∧ r = .bool false ∧ MAt wr w.heap.size 0 m ∧ Below w.heap.size w wr ∧ w.heap.size < wr.heap.size) (fun _ x _ => 16 - (intOf x).toNat)
      case atStart => exact ⟨0, by omega, rfl, rfl, rfl, hm, hb0, by simp⟩
      case round =>
        obtain ⟨k, hk, rfl, hu, rfl, hmr, hbr, hsz⟩ := hrel
        clear hl hs
        have hl := hmr.l
        have hs := hmr.s
        by_cases hlt : k < 16
        · have i1 : (k : Int) < 16 := by omega
          go_wp2
          obtain ⟨B, hB⟩ : ∃ B, B = wr.heap.size := ⟨_, rfl⟩
          rw [← hB]
          have HB := Lib.hid hB
          clear hl hs hB
          go_loopw [2, 5] (fun r x wi => ∃ j : Nat, j ≤ 3 ∧ x = .int .i64 j ∧ Hid (rowUpto m k j = true) ∧ r = .bool false ∧ MAt wi w.heap.size 0 m ∧ Below w.heap.size w wi ∧ w.heap.size < wi.heap.size ∧ Hid (MetAt wi B m k j)) (fun _ x _ => 3 - (intOf x).toNat)
          case atStart =>
            exact ⟨0, by omega, rfl, rfl, rfl, hmr.alloc hsz _, hbr.alloc (by omega) _, by simp; omega, MetAt.zero _ _ _ _ _ HB.out⟩
          case round =>
            obtain ⟨j, hj, rfl, hU, rfl, hmi, hbi, hszi, hMet⟩ := hrel
            have hl := hmi.l
            have hs := hmi.s
            by_cases hjlt : j < 3
            · have e2 := hmi.nn hwf hlt hjlt
              have e3 := hmi.oo hwf hlt hjlt
              have b2 : 0 ≤ m.n k j ∧ m.n k j ≤ 255 := hwf.nb (k * 3 + j)
              have b3 : 0 ≤ m.o k j ∧ m.o k j ≤ 255 := hwf.ob (k * 3 + j)
              have i2 : (0 : Int) ≤ (k : Int) := by omega
              have i3 : (j : Int) < 3 := by omega
              have i4 : (0 : Int) ≤ (j : Int) := by omega
              obtain ⟨N, hN⟩ : ∃ N, N = m.n k j := ⟨_, rfl⟩
              obtain ⟨O, hO⟩ : ∃ O, O = m.o k j := ⟨_, rfl⟩
              rw [← hN] at e2 b2
              rw [← hO] at e3 b3
              have HN := Lib.hid hN
              have HO := Lib.hid hO
              clear hN hO
              by_cases hact : (k : Int) < m.S ∧ (j : Int) < m.L
              · have HA := entry_act hact
                rw [← HN.out, ← HO.out] at HA
                obtain ⟨a1, a2⟩ := hact
                by_cases k1 : N < m.S
                · by_cases k2 : O < m.L
                  · obtain ⟨o', ho'⟩ : ∃ o' : Nat, O = o' := ⟨O.toNat, by omega⟩
                    subst ho'
                    have ho3 : o' < 3 := by omega
                    have i5 : (o' : Int) < 3 := by omega
                    have i6 : (0 : Int) ≤ (o' : Int) := by omega
                    have hc := hMet.out.val o' ho3 a1 (by omega)
                    have hf := hMet.out.free o' ho3
                    have hall := metB_all (k := j) HO.out.symm
                    rw [HO.out, hall] at HA
                    clear hall
                    have HA' := Lib.hid HA
                    clear HA
                    by_cases k3 : metB m k j o' = true
                    · rw [k3] at hc
                      have HF := Lib.hid (show machP m = false from mach_false hlt (row_false hjlt (by rw [HA'.out, k3]; simp)))
                      clear k3
                      go_wp2
                      go_quiet (fail)
                      go_wp2
                      go_ret
                      exact ⟨ret_bool HF.out.symm, below_dN hbi _⟩
                    · have k3' : metB m k j o' = false := by simpa using k3
                      rw [k3'] at hc
                      have HF := Lib.hid (show rowUpto m k (j + 1) = true by rw [rowUpto_succ, hU.out, HA'.out, k3']; simp [k1, ← HO.out, k2])
                      have HM := Lib.hid (fun v => metB_succ (k := j) (m := m) (q := k) HO.out.symm v)
                      clear k3 k3'
                      go_wp2
                      go_quiet (fail)
                      go_wp2
                      go_roundw
                      case rel => exact ⟨j + 1, by omega, by go_num, HF.out, rfl, (hmi.drewN _).setCell (by have := HB.out; simp; omega) _, (below_dN hbi _).setCell (by have := HB.out; simp; omega) _, by simp; omega, hMet.out.step HO.out.symm ho3 _⟩
                      case measure => simp [intOf]; omega
                  · have HF := Lib.hid (show machP m = false from mach_false hlt (row_false hjlt (by rw [HA]; simp [k2])))
                    clear HA
                    go_wp2
                    go_quiet (fail)
                    go_wp2
                    go_ret
                    exact ⟨ret_bool HF.out.symm, below_dN hbi _⟩
                · have HF := Lib.hid (show machP m = false from mach_false hlt (row_false hjlt (by rw [HA]; simp [k1])))
                  clear HA
                  go_wp2
                  go_quiet (fail)
                  go_wp2
                  go_ret
                  exact ⟨ret_bool HF.out.symm, below_dN hbi _⟩
              · have HA := entry_idle hact
                rw [← HN.out, ← HO.out] at HA
                have HACT := Lib.hid hact
                have HA' := Lib.hid HA
                clear HA hact
                by_cases k1 : N = 0
                · by_cases k2 : (O != 0) = true
                  · have HF := Lib.hid (show machP m = false from mach_false hlt (row_false hjlt (by rw [HA'.out]; simp at k2; simp [k2])))
                    by_cases k4 : m.S ≤ (k : Int)
                    all_goals (go_wp2; go_quiet (fail); go_wp2; go_ret; exact ⟨ret_bool HF.out.symm, below_dN hbi _⟩)
                  · have k2' : (O != 0) = false := by simpa using k2
                    clear k2
                    have HF := Lib.hid (show rowUpto m k (j + 1) = true by rw [rowUpto_succ, hU.out, HA'.out]; simp at k2'; simp [k1, k2'])
                    by_cases k4 : m.S ≤ (k : Int)
                    · go_wp2
                      go_quiet (fail)
                      go_wp2
                      go_roundw
                      case rel => exact ⟨j + 1, by omega, by go_num, HF.out, rfl, hmi.drewN _, below_dN hbi _, hszi, hMet.out.idle HACT.out _⟩
                      case measure => simp [intOf]; omega
                    · go_wp2
                      go_quiet (fail)
                      go_wp2
                      go_roundw
                      case rel => exact ⟨j + 1, by omega, by go_num, HF.out, rfl, hmi.drewN _, below_dN hbi _, hszi, hMet.out.idle HACT.out _⟩
                      case measure => simp [intOf]; omega
                · have HF := Lib.hid (show machP m = false from mach_false hlt (row_false hjlt (by rw [HA'.out]; simp [k1])))
                  by_cases k4 : m.S ≤ (k : Int)
                  all_goals (go_wp2; go_quiet (fail); go_wp2; go_ret; exact ⟨ret_bool HF.out.symm, below_dN hbi _⟩)
            · have hj3 : j = 3 := by omega
              subst hj3
              have HF := Lib.hid (show rowsUpto m (k + 1) = true by rw [rowsUpto_succ, hu.out]; exact hU.out)
              go_wp2
              go_roundw
              case rel => exact ⟨k + 1, by omega, by go_num, HF.out, rfl, hmi, hbi, hszi⟩
              case measure => simp [intOf]; omega
        · have hk16 : k = 16 := by omega
          subst hk16
          go_wp2
          go_ret
          exact ⟨ret_bool (HT.out hu.out).symm, hbr⟩
    · go_enter Try.func64, Try.ntmps64
      go_wp2_with (go_at_call 54; refine (l01In_any _ _ _ _).mono ?_; rintro e w' ⟨rfl, rfl⟩)
      go_ret
      exact ⟨ret_bool (HF2.out (by simpa using c2)).symm, hb0⟩
  · go_enter Try.func64, Try.ntmps64
    go_wp2_with (go_at_call 54; refine (l01In_any _ _ _ _).mono ?_; rintro e w' ⟨rfl, rfl⟩)
    go_ret
    exact ⟨ret_bool (HF.out (by simpa using c1)).symm, hb0⟩
end Go.Proofs.Yteagecoiijhflaa

/- The codes of words of towers. -/
namespace Go.Proofs.Yteagecoiijhflaa
open Go.RowKit
set_option linter.unusedVariables false
set_option linter.unusedSimpArgs false

end Go.Proofs.Yteagecoiijhflaa

/- The move of a tower. -/
namespace Go.Proofs.Yteagecoiijhflaa
open Go.RowKit
set_option linter.unusedVariables false
set_option linter.unusedSimpArgs false

end Go.Proofs.Yteagecoiijhflaa

/- MoveTower and its reference. -/
namespace Go.Proofs.Yteagecoiijhflaa
open Go.RowKit
set_option linter.unusedVariables false
set_option linter.unusedSimpArgs false

def goodXY (x y : Int) : Prop := 0 ≤ x ∧ x ≤ 2 ∧ x < y ∧ y ≤ 2
instance (x y : Int) : Decidable (goodXY x y) := by unfold goodXY; infer_instance
end Go.Proofs.Yteagecoiijhflaa

/- The reference's codes of machines, states and words; what a state makes of a word. -/
namespace Go.Proofs.Yteagecoiijhflaa
open Go.RowKit
set_option linter.unusedVariables false
set_option linter.unusedSimpArgs false

theorem boxedBelow (w : World) (c : Array Value) (T : TypeId) : Below w.heap.size w (w.alloc (.cells c T)) := (Below.refl _ _).alloc (Nat.le_refl _) _
theorem MAt.keep {w w' : World} {b o : Nat} {m : Mch} (h : MAt w b o m) (hb : Below w.heap.size w w') (hw : m.Wf) : MAt w' b o m := h.below hb (World.block_lt_of_cell? w ⟨b, o, none⟩ h.l)

theorem Try.info5 : (Try.prog.info? 5).map (fun i => (i.zero, i.size, i.bytes)) = some (some (.int .u8 0), 1, 1) := by kernel_rfl

/-- behind an append to an owned row: what lies below its base is as it was -/
theorem grown_below {B : Nat} {w wr w1 : World} {base E n : Nat} {v : Value} {xs : List Value} {o : Obj} (hb : Below B w wr) (hown : wr.ownsRow base E 1 v n xs) (hB : B ≤ base) (hsz : B ≤ wr.heap.size) (hg : (wr.alloc o).grownBy w1 v.ownBlock) :
    Below B w w1 ∧ wr.heap.size < w1.heap.size ∧ ∀ b, b < base → b < wr.heap.size → w1.heap[b]? = wr.heap[b]? := by
  have hb' := hb.alloc hsz o
  have hlt := fun k hk => (hown.alloc o).lt k hk
  refine ⟨hb'.grown hg (by simp; omega) (fun k hk => by have := hlt k hk; omega), ?_, fun b h1 h2 => ?_⟩
  · have := hg.size; simp at this; omega
  · rw [hg.block b (by simp; omega) (fun e => by have := hlt b e.symm; omega)]
    exact Below.heap_alloc _ _ _ h2
end Go.Proofs.Yteagecoiijhflaa

/- The laws' copies and comparisons of machines. -/
namespace Go.Proofs.Yteagecoiijhflaa
open Go.RowKit
set_option linter.unusedVariables false
set_option linter.unusedSimpArgs false

set_option maxHeartbeats 1000000 in
theorem toByteA3_any (x y z : Int) (w : World) :
    Calls Try.prog 91 #[.agg #[.int .u8 x, .int .u8 y, .int .u8 z]] w (Ret (.agg #[.int .u8 x, .int .u8 y, .int .u8 z]) w) := by
  go_enter Try.func91, Try.ntmps91
  go_wp2
  refine wp_loop_rounds 4 ?_
  rw [rounds_succ]
  go_wp2
  rw [rounds_succ]
  go_wp2
  rw [rounds_succ]
  go_wp2
  rw [rounds_succ]
  go_wp2
  exact bodyPost_ret (v := .agg #[.int .u8 x, .int .u8 y, .int .u8 z]) (by simp [results, Try.results91, go_sem]) rfl ⟨rfl, (((Below.refl _ _).alloc (Nat.le_refl _) _).alloc (by simp) _).alloc (by simp; omega) _⟩

def pad (xs : List Int) (k : Nat) : List Int := xs.take (k * 3) ++ List.replicate (48 - k * 3) 0
theorem pad_length {xs : List Int} {k : Nat} (h : xs.length = 48) (hk : k ≤ 16) : (pad xs k).length = 48 := by simp [pad, h]; omega
theorem pad_step {xs : List Int} {k : Nat} (h : xs.length = 48) (hk : k < 16) :
    (((u8s (pad xs k)).set (k * 3) (.int .u8 (xs[k * 3]?.getD 0))).set (k * 3 + 1) (.int .u8 (xs[k * 3 + 1]?.getD 0))).set (k * 3 + 2) (.int .u8 (xs[k * 3 + 2]?.getD 0)) = u8s (pad xs (k + 1)) := by
  apply List.ext_getElem?
  intro i
  have hl : (u8s (pad xs k)).length = 48 := by simp [u8s, pad_length h (by omega : k ≤ 16)]
  have hl' : (u8s (pad xs (k + 1))).length = 48 := by simp [u8s, pad_length h (by omega : k + 1 ≤ 16)]
  by_cases hi : i < 48
  · have e' : (u8s (pad xs (k + 1)))[i]? = some (.int .u8 (if i < (k + 1) * 3 then xs[i]?.getD 0 else 0)) := by
      rw [u8s_get (by rw [pad_length h (by omega : k + 1 ≤ 16)]; exact hi)]
      congr 2
      simp only [pad]
      by_cases c : i < (k + 1) * 3
      · rw [if_pos c, List.getElem?_append_left (by simp; omega), List.getElem?_take, if_pos c]
      · rw [if_neg c, List.getElem?_append_right (by simp; omega), List.getElem?_replicate]
        split <;> rfl
    have e0 : (u8s (pad xs k))[i]? = some (.int .u8 (if i < k * 3 then xs[i]?.getD 0 else 0)) := by
      rw [u8s_get (by rw [pad_length h (by omega : k ≤ 16)]; exact hi)]
      congr 2
      simp only [pad]
      by_cases c : i < k * 3
      · rw [if_pos c, List.getElem?_append_left (by simp; omega), List.getElem?_take, if_pos c]
      · rw [if_neg c, List.getElem?_append_right (by simp; omega), List.getElem?_replicate]
        split <;> rfl
    rw [e']
    by_cases c2 : i = k * 3 + 2
    · subst c2; rw [List.getElem?_set_self (by simp [hl]; omega), if_pos (by omega)]
    · rw [List.getElem?_set_ne (by omega)]
      by_cases c1 : i = k * 3 + 1
      · subst c1; rw [List.getElem?_set_self (by simp [hl]; omega), if_pos (by omega)]
      · rw [List.getElem?_set_ne (by omega)]
        by_cases c0 : i = k * 3
        · subst c0; rw [List.getElem?_set_self (by simp [hl]; omega), if_pos (by omega)]
        · rw [List.getElem?_set_ne (by omega), e0]
          congr 2
          by_cases c : i < k * 3
          · rw [if_pos c, if_pos (by omega)]
          · rw [if_neg c, if_neg (by omega)]
  · rw [List.getElem?_eq_none (by simp [hl]; omega), List.getElem?_eq_none (by rw [hl']; omega)]

set_option maxHeartbeats 2000000 in
theorem toByteA3A16_any (xs : List Int) (hx : xs.length = 48) (w : World) :
    Calls Try.prog 57 #[.agg (u8s xs).toArray] w (Ret (.agg (u8s xs).toArray) w) := by
  have HX := Lib.hid hx
  clear hx
  go_enter Try.func57, Try.ntmps57
  go_wp2
  obtain ⟨n, hn⟩ : ∃ n, n = w.heap.size := ⟨_, rfl⟩
  rw [← hn]
  have HN := Lib.hid hn
  clear hn
  go_loopw [4] (fun i wr => ∃ k : Nat, k ≤ 16 ∧ i = .int .i64 k ∧ Blk wr n (u8s xs) 23 ∧ Blk wr (n + 1) (u8s (List.replicate 48 0)) 23 ∧ Blk wr (n + 1 + 1) (u8s (pad xs k)) 23 ∧ Below n w wr) (fun i _ => 16 - (intOf i).toNat)
  case atStart =>
    have e1 : (n + 1) = (w.alloc (.cells (u8s xs).toArray 23)).heap.size := by rw [HN.out]; simp
    refine ⟨0, by omega, rfl, ?_, ?_, ?_, ?_⟩
    · rw [HN.out]; exact ((Blk.new w _ _).alloc _).alloc _
    · have := (Blk.new (w.alloc (.cells (u8s xs).toArray 23)) (u8s (List.replicate 48 0)).toArray 23).alloc (.cells (u8s (List.replicate 48 0)).toArray 23)
      rw [← e1] at this
      exact this
    · have := Blk.new ((w.alloc (.cells (u8s xs).toArray 23)).alloc (.cells (u8s (List.replicate 48 0)).toArray 23)) (u8s (List.replicate 48 0)).toArray 23
      rw [show ((w.alloc (.cells (u8s xs).toArray 23)).alloc (.cells (u8s (List.replicate 48 0)).toArray 23)).heap.size = n + 1 + 1 by rw [HN.out]; simp] at this
      exact this
    · rw [HN.out]; exact (((Below.refl _ _).alloc (Nat.le_refl _) _).alloc (by simp) _).alloc (by simp; omega) _
  case round =>
    obtain ⟨k, hk, rfl, hA, hR, hB, hb⟩ := hrel
    by_cases hlt : k < 16
    · have hx := HX.out
      have a0 := hA.cell' (u8s_get (i := k * 3) (by omega))
      have a1 := hA.cell' (u8s_get (i := k * 3 + 1) (by omega))
      have a2 := hA.cell' (u8s_get (i := k * 3 + 2) (by omega))
      have hp : (pad xs k).length = 48 := pad_length hx hk
      have b0 := hB.cell' (u8s_get (i := k * 3) (by omega))
      have b1 := hB.cell' (u8s_get (i := k * 3 + 1) (by omega))
      have b2 := hB.cell' (u8s_get (i := k * 3 + 2) (by omega))
      have f0 := hB.free (k * 3)
      have f1 := hB.free (k * 3 + 1)
      have f2 := hB.free (k * 3 + 2)
      have HP := Lib.hid (pad_step hx hlt)
      clear hx hp
      obtain ⟨x0, e0⟩ : ∃ x, x = xs[k * 3]?.getD 0 := ⟨_, rfl⟩
      obtain ⟨x1, e1⟩ : ∃ x, x = xs[k * 3 + 1]?.getD 0 := ⟨_, rfl⟩
      obtain ⟨x2, e2⟩ : ∃ x, x = xs[k * 3 + 2]?.getD 0 := ⟨_, rfl⟩
      rw [← e0] at a0 HP
      rw [← e1] at a1 HP
      rw [← e2] at a2 HP
      clear e0 e1 e2
      have i1 : (k : Int) < 16 := by omega
      have i2 : (0 : Int) ≤ (k : Int) := by omega
      go_wp2_with fail
      refine (toByteA3_any _ _ _ _).mono ?_
      rintro e w1 ⟨rfl, hb1⟩
      have hA1 := hA.keep hb1
      have hR1 := hR.keep hb1
      have hB1 := hB.keep hb1
      have hbb := hb.trans (hb1.mono (Nat.le_of_lt (Nat.lt_of_lt_of_le (by omega : n < n + 1 + 1 + 1) (by have := hB.lt; omega))))
      have b0' := (hb1.cell (p := ⟨n + 1 + 1, k * 3, none⟩) hB.lt).trans b0
      have b1' := (hb1.cell (p := ⟨n + 1 + 1, k * 3 + 1, none⟩) hB.lt).trans b1
      have b2' := (hb1.cell (p := ⟨n + 1 + 1, k * 3 + 2, none⟩) hB.lt).trans b2
      have f0' := hB1.free (k * 3)
      have f1' := hB1.free (k * 3 + 1)
      have f2' := hB1.free (k * 3 + 2)
      clear a0 a1 a2 b0 b1 b2 f0 f1 f2
      go_wp2
      go_roundw
      case rel =>
        refine ⟨k + 1, by omega, by go_num, ((hA1.setOther (by simp only; omega) _).setOther (by simp only; omega) _).setOther (by simp only; omega) _, ((hR1.setOther (by simp only; omega) _).setOther (by simp only; omega) _).setOther (by simp only; omega) _, ?_, ?_⟩
        · rw [← HP.out]
          exact ((hB1.setCell _ _).setCell _ _).setCell _ _
        · exact ((hbb.setCell (by simp; omega) _).setCell (by simp; omega) _).setCell (by simp; omega) _
      case measure => simp [intOf]; omega
    · have hk' : k = 16 := by omega
      subst hk'
      have hx := HX.out
      have hp : pad xs 16 = xs := by simp [pad, hx]; exact List.take_of_length_le (by omega)
      rw [hp] at hB
      have hl : (u8s xs).length = 48 := by simp [u8s, hx]
      have hi : (Try.prog.info? 23).map (·.size) = some (u8s xs).length := by rw [hl]; kernel_rfl
      have hi' : (Try.prog.info? 23).map (·.size) = some (u8s xs).toArray.size := by rw [List.size_toArray]; exact hi
      have hra : wr.rangeAt (n + 1 + 1) 0 (u8s xs) := hB.range 0 _ (fun j v h => by simpa using h)
      have hth : wr.there (n + 1) 0 (u8s xs).toArray.size := hR.there 0 _ (by simp [u8s, hx])
      have h1 : (u8s xs).toArray.all (·.oneCell') = true := all_oneCell_toArray (fun v hv => by simp only [u8s, List.mem_map] at hv; obtain ⟨z, _, rfl⟩ := hv; rfl)
      have hne : splice (u8s (List.replicate 48 0)) 0 (u8s xs) = u8s xs := by
        apply List.ext_getElem?
        intro i
        rw [splice_get]
        by_cases hi : i < 48
        · rw [if_pos ⟨by omega, by rw [hl]; omega, by simpa [u8s] using hi⟩]; simp
        · rw [if_neg (by simp [u8s]; omega), List.getElem?_eq_none (by simp [u8s]; omega), List.getElem?_eq_none (by rw [hl]; omega)]
      have HNE := Lib.hid hne
      have HI := Lib.hid hi'
      clear hx hp hne hl hi hi'
      go_wp2_with (first | (refine wpList_load_mid rfl 23 (.tmp 3) rfl (n + 1 + 1) 0 rfl (u8s xs) (.array 16 22) hra Try.underlying23 rfl (HI.out.trans (by rw [List.size_toArray])) ?_) | (refine wpList_store_mid rfl 23 (.tmp 2) (.tmp 15) rfl (n + 1) 0 _ rfl rfl hth HI.out h1 ?_))
      have hfin := hR.setCells (u8s xs) 0
      rw [HNE.out] at hfin
      exact bodyPost_ret (v := .agg (u8s xs).toArray) (results_cell_row Try.results57 _ _ (n + 1) 23 (u8s xs).toArray (0, 0) (.array 16 22) rfl hfin Try.underlying23 rfl HI.out) rfl ⟨rfl, by rw [HN.out] at hb; exact below_setCells (by rw [HN.out]; omega) _ hb 0⟩

theorem after3 {w0 w1 : World} {A Z C : Array Value} {TA TZ TC : TypeId} (hb : Below (((w0.alloc (.cells A TA)).alloc (.cells Z TZ)).alloc (.cells C TC)).heap.size (((w0.alloc (.cells A TA)).alloc (.cells Z TZ)).alloc (.cells C TC)) w1) :
    Blk w1 w0.heap.size A.toList TA ∧ Blk w1 (w0.heap.size + 1) Z.toList TZ ∧ Blk w1 (w0.heap.size + 1 + 1) C.toList TC ∧ Below w0.heap.size w0 w1 := by
  have e1 : (w0.alloc (.cells A TA)).heap.size = w0.heap.size + 1 := by simp
  have e2 : ((w0.alloc (.cells A TA)).alloc (.cells Z TZ)).heap.size = w0.heap.size + 1 + 1 := by simp
  refine ⟨(((Blk.new w0 A TA).alloc _).alloc _).keep hb, ?_, ?_, ((((Below.refl _ _).alloc (Nat.le_refl _) _).alloc (by simp) _).alloc (by simp; omega) _).trans (hb.mono (by simp; omega))⟩
  · have := ((Blk.new (w0.alloc (.cells A TA)) Z TZ).alloc (.cells C TC)).keep hb
    rwa [e1] at this
  · have := (Blk.new ((w0.alloc (.cells A TA)).alloc (.cells Z TZ)) C TC).keep hb
    rwa [e2] at this

theorem mach_splice {m : Mch} (hw : m.Wf) (Z : Array Value) (hZ : Z.size = 98) :
    splice (splice ((Z.setIfInBounds 0 (Value.int IntKind.i64 m.L)).setIfInBounds 1 (Value.int IntKind.i64 m.S)).toList 2 (u8s m.N)) 50 (u8s m.O) = m.cells := by
  have hn := hw.nl
  have ho := hw.ol
  have hN : (u8s m.N).length = 48 := by simp [u8s, hn]
  have hO : (u8s m.O).length = 48 := by simp [u8s, ho]
  have hZl : ((Z.setIfInBounds 0 (Value.int IntKind.i64 m.L)).setIfInBounds 1 (Value.int IntKind.i64 m.S)).toList.length = 98 := by simp [hZ]
  apply List.ext_getElem?
  intro i
  rw [splice_get, splice_length, splice_get, hN, hO, hZl]
  by_cases c1 : 50 ≤ i ∧ i < 50 + 48 ∧ i < 98
  · rw [if_pos c1]
    simp only [Mch.cells]
    rw [show i = (48 + (i - 50)) + 1 + 1 by omega, List.getElem?_cons_succ, List.getElem?_cons_succ, List.getElem?_map, List.getElem?_append_right (by omega), ← List.getElem?_map, show 48 + (i - 50) - m.N.length = i - 50 by omega, show 48 + (i - 50) + 1 + 1 - 50 = i - 50 by omega]
    rfl
  · rw [if_neg c1]
    by_cases c2 : 2 ≤ i ∧ i < 2 + 48 ∧ i < 98
    · rw [if_pos c2]
      simp only [Mch.cells]
      rw [show i = (i - 2) + 1 + 1 by omega, List.getElem?_cons_succ, List.getElem?_cons_succ, List.getElem?_map, List.getElem?_append_left (by omega), ← List.getElem?_map, show i - 2 + 1 + 1 - 2 = i - 2 by omega]
      rfl
    · rw [if_neg c2]
      by_cases c3 : i < 98
      · have : i = 0 ∨ i = 1 := by omega
        rcases this with rfl | rfl
        · simp [Mch.cells, hZ, Array.getElem?_setIfInBounds]
        · simp [Mch.cells, hZ, Array.getElem?_setIfInBounds]
      · rw [List.getElem?_eq_none (by rw [hZl]; omega), List.getElem?_eq_none (by rw [Mch.cells_length hw]; omega)]

set_option maxRecDepth 100000 in
set_option maxHeartbeats 2000000 in
theorem toMachine_any (m : Mch) (hw : m.Wf) (w : World) :
    Calls Try.prog 17 #[.agg m.cells.toArray] w (Ret (.agg m.cells.toArray) w) := by
  have hl : m.cells[0]? = some (.int .i64 m.L) := rfl
  have hs : m.cells[1]? = some (.int .i64 m.S) := rfl
  have hz0 : Try.zeroCells29[0]? = some (.int .i64 0) := by kernel_rfl
  have hz1 : Try.zeroCells29[1]? = some (.int .i64 0) := by kernel_rfl
  go_enter Try.func17, Try.ntmps17
  have hN : (u8s m.N).length = 48 := by simp [u8s, hw.nl]
  have hO : (u8s m.O).length = 48 := by simp [u8s, hw.ol]
  have hiN : (Try.prog.info? 23).map (·.size) = some (u8s m.N).length := by rw [hN]; kernel_rfl
  have hiO : (Try.prog.info? 23).map (·.size) = some (u8s m.O).length := by rw [hO]; kernel_rfl
  have HIN := Lib.hid hiN
  have HIO := Lib.hid hiO
  have HLN := Lib.hid hN
  have HLO := Lib.hid hO
  clear hN hO hiN hiO
  have hr1 : ∀ A B : Obj, (((w.alloc (.cells m.cells.toArray 25)).alloc A).alloc B).rangeAt w.heap.size 2 (u8s m.N) := fun A B => by
    refine (((Blk.new w m.cells.toArray 25).alloc A).alloc B).range 2 _ (fun j v h => ?_)
    have hj : j < m.N.length := by have := (List.getElem?_eq_some_iff.1 h).1; simpa [u8s] using this
    simp only [Mch.cells]
    rw [show 2 + j = j + 1 + 1 by omega, List.getElem?_cons_succ, List.getElem?_cons_succ, List.getElem?_map, List.getElem?_append_left hj, ← List.getElem?_map]
    exact h
  go_wp2_with ((with_reducible refine wpList_load_mid ?_ 23 (.tmp 10) ?_ w.heap.size 2 ?_ (u8s m.N) (.array 16 22) (hr1 _ _) Try.underlying23 ?_ HIN.out ?_); exact rfl; exact rfl; exact rfl; exact rfl)
  refine (toByteA3A16_any m.N hw.nl _).mono ?_
  rintro e w1 ⟨rfl, hb1⟩
  obtain ⟨hM, hZ, hT, hb⟩ := after3 hb1
  clear hb1
  obtain ⟨n, hn⟩ : ∃ n, n = w.heap.size := ⟨_, rfl⟩
  rw [← hn] at hM hZ hT
  rw [← hn]
  have HN := Lib.hid hn
  have h1 : (u8s m.N).toArray.all (·.oneCell') = true := all_oneCell_toArray (fun v hv => by simp only [u8s, List.mem_map] at hv; obtain ⟨z, _, rfl⟩ := hv; rfl)
  have h2 : (u8s m.O).toArray.all (·.oneCell') = true := all_oneCell_toArray (fun v hv => by simp only [u8s, List.mem_map] at hv; obtain ⟨z, _, rfl⟩ := hv; rfl)
  have hcl : ((Try.zeroCells29.setIfInBounds 0 (Value.int IntKind.i64 m.L)).setIfInBounds 1 (Value.int IntKind.i64 m.S)).toList.length = 98 := by simp [Try.zeroCells29_size]
  have ht1 := hT.there 2 (u8s m.N).toArray.size (by rw [hcl, List.size_toArray, HLN.out]; omega)
  have hT2 := hT.setCells (u8s m.N) 2
  have hM2 := hM.setsOther (c := n + 1 + 1) (by omega) (u8s m.N) 2
  have hZ2 := hZ.setsOther (c := n + 1 + 1) (by omega) (u8s m.N) 2
  have hb' : Below n w w1 := by rw [HN.out]; exact hb
  have hb2 := below_setCells (b := n + 1 + 1) (by omega) (u8s m.N) hb' 2
  have hr2 := hM2.range 50 (u8s m.O) (fun j v h => by
    have hj : j < m.O.length := by have := (List.getElem?_eq_some_iff.1 h).1; simpa [u8s] using this
    have e := hw.nl
    simp only [Mch.cells]
    rw [show 50 + j = (48 + j) + 1 + 1 by omega, List.getElem?_cons_succ, List.getElem?_cons_succ, List.getElem?_map, List.getElem?_append_right (by omega), show 48 + j - m.N.length = j by omega, ← List.getElem?_map]
    exact h)
  have HC := Lib.hid (mach_splice hw Try.zeroCells29 Try.zeroCells29_size)
  have hI1 : Hid ((Try.prog.info? 23).map (·.size) = some (u8s m.N).toArray.size) := HIN.out.trans (by rw [List.size_toArray])
  have hI2 : Hid ((Try.prog.info? 23).map (·.size) = some (u8s m.O).toArray.size) := HIO.out.trans (by rw [List.size_toArray])
  clear hn hr1 hcl
  go_wp2_with (first | ((with_reducible refine wpList_store_mid ?_ 23 (.tmp 13) (.tmp 12) ?_ (n + 1 + 1) 2 (u8s m.N).toArray ?_ ?_ ht1 hI1.out h1 ?_); exact rfl; exact rfl; exact rfl; exact rfl) | ((with_reducible refine wpList_load_mid ?_ 23 (.tmp 14) ?_ n 50 ?_ (u8s m.O) (.array 16 22) hr2 Try.underlying23 ?_ HIO.out ?_); exact rfl; exact rfl; exact rfl; exact rfl))
  refine (toByteA3A16_any m.O hw.ol _).mono ?_
  rintro e w2 ⟨rfl, hb3⟩
  have hT3 := hT2.keep hb3
  have hZ3 := hZ2.keep hb3
  have hb4 : Below n w w2 := hb2.trans (hb3.mono (Nat.le_of_lt hM2.lt))
  have ht3 := hT3.there 50 (u8s m.O).toArray.size (by rw [splice_length, List.size_toArray, HLO.out]; simp [Try.zeroCells29_size])
  have hT4 := hT3.setCells (u8s m.O) 50
  rw [HC.out] at hT4
  have hZ4 := hZ3.setsOther (c := n + 1 + 1) (by omega) (u8s m.O) 50
  have hb5 := below_setCells (b := n + 1 + 1) (by omega) (u8s m.O) hb4 50
  have hr4 := hT4.range 0 m.cells (fun j v h => by simpa using h)
  have hi4 : Hid ((Try.prog.info? 29).map (·.size) = some m.cells.length) := by show _ = _; rw [Mch.cells_length hw]; kernel_rfl
  have hi5 : Hid ((Try.prog.info? 29).map (·.size) = some m.cells.toArray.size) := hi4.out.trans (by rw [List.size_toArray])
  have ht5 := hZ4.there 0 m.cells.toArray.size (by rw [List.size_toArray, Mch.cells_length hw]; simp [Try.zeroCells29_size])
  have h5 : m.cells.toArray.all (·.oneCell') = true := all_oneCell_toArray (fun v hv => by simp only [Mch.cells, List.mem_cons, List.mem_map] at hv; rcases hv with rfl | rfl | ⟨z, _, rfl⟩ <;> rfl)
  have hZ6 := hZ4.setCells m.cells 0
  have HZ6 := Lib.hid (show splice Try.zeroCells29.toList 0 m.cells = m.cells from splice_all (by rw [Mch.cells_length hw]; simp [Try.zeroCells29_size]))
  have hb6 := below_setCells (b := n + 1) (by omega) m.cells hb5 0
  go_wp2_with (first | ((with_reducible refine wpList_store_mid ?_ 23 (.tmp 17) (.tmp 16) ?_ (n + 1 + 1) 50 (u8s m.O).toArray ?_ ?_ ht3 hI2.out h2 ?_); exact rfl; exact rfl; exact rfl; exact rfl) | ((with_reducible refine wpList_load_mid ?_ 29 (.tmp 3) ?_ (n + 1 + 1) 0 ?_ m.cells (.struct _) hr4 Try.underlying29 ?_ hi4.out ?_); exact rfl; exact rfl; exact rfl; exact rfl) | ((with_reducible refine wpList_store_mid ?_ 29 (.tmp 2) (.tmp 18) ?_ (n + 1) 0 m.cells.toArray ?_ ?_ ht5 hi5.out h5 ?_); exact rfl; exact rfl; exact rfl; exact rfl))
  rw [HZ6.out] at hZ6
  exact bodyPost_ret (v := .agg m.cells.toArray) (results_cell_row Try.results17 _ _ (n + 1) 29 m.cells.toArray (0, 0) (.struct _) rfl hZ6 Try.underlying29 rfl hi5.out) rfl ⟨rfl, by rw [← HN.out]; exact hb6⟩
end Go.Proofs.Yteagecoiijhflaa
