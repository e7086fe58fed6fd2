/- IsMachine and its reference: both ask whether a struct is a machine. -/
import Derived.Test.YtmacnofkpdikiaaB
namespace Go.Proofs.Ytmacnofkpdikiaa
open Go.RowKit
set_option linter.unusedVariables false
set_option linter.unusedSimpArgs false

theorem and_bit : ∀ t, t < 8 → ∀ o, o < 3 → (bits BinOp.and IntKind.i64 ((t : Nat) / 2 ^ o) 1 == 1) = (t : Nat).testBit o := by decide
theorem or_bit : ∀ t, t < 8 → ∀ o, o < 3 → bits BinOp.or IntKind.i64 (t : Nat) (wrap64 (2 ^ o)) = ((t ||| 2 ^ o : Nat) : Int) ∧ (t ||| 2 ^ o : Nat) < 8 := by decide +kernel

/-- the letters that a state has put out before x, as a mask -/
def SeenM (m : Mch) (q k t : Nat) : Prop := t < 8 ∧ ∀ v, v < 3 → t.testBit v = (List.range k).any fun y => decide (m.o q y = (v : Int))

theorem SeenM.zero (m : Mch) (q : Nat) : SeenM m q 0 0 := ⟨by omega, by simp⟩

theorem SeenM.step {m : Mch} {q k t o : Nat} (h : SeenM m q k t) (ho : m.o q k = (o : Int)) (hlt : o < 3) : SeenM m q (k + 1) (t ||| 2 ^ o) := by
  refine ⟨(or_bit t h.1 o hlt).2, fun v hv => ?_⟩
  rw [Nat.testBit_or, h.2 v hv, List.range_succ, List.any_append, Nat.testBit_two_pow]
  simp only [List.any_cons, List.any_nil, Bool.or_false, ho]
  congr 1
  simp
  omega

theorem SeenM.all {m : Mch} {q k t o : Nat} (h : SeenM m q k t) (ho : m.o q k = (o : Int)) (hlt : o < 3) :
    ((List.range k).all fun y => m.o q y != m.o q k) = !t.testBit o := by
  rw [h.2 o hlt, List.not_any_eq_all_not, ho]
  congr 1

def rowUpto (m : Mch) (q k : Nat) : Bool := (List.range k).all fun x => entryP m q x
theorem rowUpto_succ (m : Mch) (q k : Nat) : rowUpto m q (k + 1) = (rowUpto m q k && entryP m q k) := by
  simp [rowUpto, List.range_succ, List.all_append]
theorem row_false {m : Mch} {q k : Nat} (hk : k < 3) (h : entryP m q k = false) : rowP m q = false := by
  rw [rowP, List.all_eq_false]
  exact ⟨k, by simpa using hk, by simp [h]⟩

theorem entry_idle {m : Mch} {q k : Nat} (h : ¬ ((q : Int) < m.S ∧ (k : Int) < m.L)) : entryP m q k = (decide (m.n q k = 0) && decide (m.o q k = 0)) := by
  have : (decide (m.S ≤ (q : Int)) || decide (m.L ≤ (k : Int))) = true := by
    rw [Bool.or_eq_true, decide_eq_true_eq, decide_eq_true_eq]; omega
  simp only [entryP, this, if_true]
  rw [Bool.eq_iff_iff]
  simp
theorem entry_act {m : Mch} {q k : Nat} (h : (q : Int) < m.S ∧ (k : Int) < m.L) :
    entryP m q k = (decide (m.n q k < m.S) && decide (m.o q k < m.L) && (List.range k).all fun y => m.o q y != m.o q k) := by
  have : (decide (m.S ≤ (q : Int)) || decide (m.L ≤ (k : Int))) = false := by
    rw [Bool.or_eq_false_iff, decide_eq_false_iff_not, decide_eq_false_iff_not]; omega
  simp only [entryP, this]
  simp

def RowPost (m : Mch) (q : Nat) (w : World) (e : Ending) (w' : World) : Prop := e = .returned (.bool (rowP m q)) ∧ ∃ n, w' = w.drewN n

set_option maxHeartbeats 2000000 in
theorem isRow_any (b o : Nat) (m : Mch) (hwf : m.Wf) (q : Nat) (hq : q < 16) (w : World) (hm : MAt w b o m) (hL : m.L ≤ 3) :
    Calls Try.prog 126 #[.pointer (some ⟨b, o, none⟩), .int .i64 q] w (RowPost m q w) := by
  have hl := hm.l
  have hs := hm.s
  go_enter Try.func126, Try.ntmps126
  go_wp2
  go_loopw [4, 5, 9] (fun r s x wr => ∃ k : Nat, ∃ t n : Nat, k ≤ 3 ∧ x = .int .i64 k ∧ s = .int .i64 t ∧ rowUpto m q k = true ∧ (((q : Int) < m.S → (k : Int) ≤ m.L → SeenM m q k t)) ∧ r = .bool false ∧ wr = w.drewN n) (fun _ _ x _ => 3 - (intOf x).toNat)
  case atStart => exact ⟨0, 0, 0, by omega, rfl, rfl, rfl, fun _ _ => SeenM.zero _ _, rfl, rfl⟩
  case round =>
    obtain ⟨k, t, n, hk, rfl, rfl, hu, hsn, rfl, rfl⟩ := hrel
    have HU := Lib.hid hu
    have HS := Lib.hid hsn
    clear hu hsn
    by_cases hlt : k < 3
    · have e2 := hm.nn hwf hq hlt
      have e3 := hm.oo hwf hq hlt
      have b2 : 0 ≤ m.n q k ∧ m.n q k ≤ 255 := hwf.nb (q * 3 + k)
      have b3 : 0 ≤ m.o q k ∧ m.o q k ≤ 255 := hwf.ob (q * 3 + k)
      have i1 : (q : Int) < 16 := by omega
      have i2 : (0 : Int) ≤ (q : Int) := by omega
      have i3 : (k : Int) < 3 := by omega
      have i4 : (0 : Int) ≤ (k : Int) := by omega
      clear hm
      obtain ⟨N, hN⟩ : ∃ N, N = m.n q k := ⟨_, rfl⟩
      obtain ⟨O, hO⟩ : ∃ O, O = m.o q k := ⟨_, rfl⟩
      rw [← hN] at e2 b2
      rw [← hO] at e3 b3
      have HN := Lib.hid hN
      have HO := Lib.hid hO
      clear hN hO
      by_cases hact : (q : Int) < m.S ∧ (k : Int) < m.L
      · have HA := entry_act hact
        rw [← HN.out, ← HO.out] at HA
        obtain ⟨a1, a2⟩ := hact
        by_cases c1 : N < m.S
        · by_cases c2 : O < m.L
          · obtain ⟨o', ho'⟩ : ∃ o' : Nat, O = o' := ⟨O.toNat, by omega⟩
            subst ho'
            have ho3 : o' < 3 := by omega
            have hS := HS.out a1 (by omega)
            have hall := hS.all HO.out.symm ho3
            have hab := and_bit t hS.1 o' ho3
            have hob := (or_bit t hS.1 o' ho3).1
            have hstep := Lib.hid (hS.step HO.out.symm ho3)
            have HOB := Lib.hid hob
            rw [HO.out, hall, ← hab] at HA
            clear hall hab hob hS
            have HA' := Lib.hid HA
            clear HA
            by_cases c3 : (bits BinOp.and IntKind.i64 ((t : Int) / 2 ^ o') 1 == 1) = true
            · have hf : rowP m q = false := row_false hlt (by rw [HA'.out, c3]; simp)
              have HF := Lib.hid hf
              clear hf
              go_wp2
              go_quiet (fail)
              go_wp2
              go_ret
              exact ⟨ret_bool HF.out.symm, _, rfl⟩
            · have c3' : (bits BinOp.and IntKind.i64 ((t : Int) / 2 ^ o') 1 == 1) = false := by simpa using c3
              clear c3
              have hf : rowUpto m q (k + 1) = true := by rw [rowUpto_succ, HU.out, HA'.out, c3']; simp [c1, ← HO.out, c2]
              have HF := Lib.hid hf
              clear hf
              go_wp2
              go_quiet (fail)
              go_wp2
              go_roundw
              case rel => exact ⟨k + 1, t ||| 2 ^ o', _, by omega, by go_num, by rw [HOB.out], HF.out, fun _ _ => hstep.out, rfl, rfl⟩
              case measure => simp [intOf]; omega
          · have hf : rowP m q = false := row_false hlt (by rw [HA]; simp [c2])
            have HF := Lib.hid hf
            clear hf HA
            go_wp2
            go_quiet (fail)
            go_wp2
            go_ret
            exact ⟨ret_bool HF.out.symm, _, rfl⟩
        · have hf : rowP m q = false := row_false hlt (by rw [HA]; simp [c1])
          have HF := Lib.hid hf
          clear hf HA
          go_wp2
          go_quiet (fail)
          go_wp2
          go_ret
          exact ⟨ret_bool HF.out.symm, _, rfl⟩
      · have HA := entry_idle hact
        rw [← HN.out, ← HO.out] at HA
        have hno : (q : Int) < m.S → (k : Int) + 1 ≤ m.L → False := fun a c => hact ⟨a, by omega⟩
        have HNO := Lib.hid hno
        clear hno
        have HA' := Lib.hid HA
        clear HA
        by_cases c1 : N = 0
        · by_cases c2 : (O != 0) = true
          · have hf : rowP m q = false := row_false hlt (by rw [HA'.out]; simp at c2; simp [c2])
            have HF := Lib.hid hf
            clear hf
            by_cases c4 : m.S ≤ (q : Int)
            all_goals (go_wp2; go_quiet (fail); go_wp2; go_ret; exact ⟨ret_bool HF.out.symm, _, rfl⟩)
          · have c2' : (O != 0) = false := by simpa using c2
            clear c2
            have hf : rowUpto m q (k + 1) = true := by rw [rowUpto_succ, HU.out, HA'.out]; simp at c2'; simp [c1, c2']
            have HF := Lib.hid hf
            clear hf
            by_cases c4 : m.S ≤ (q : Int)
            · go_wp2
              go_quiet (fail)
              go_wp2
              go_roundw
              case rel => exact ⟨k + 1, t, _, by omega, by go_num, rfl, HF.out, fun a c => (HNO.out a (by omega)).elim, rfl, rfl⟩
              case measure => simp [intOf]; omega
            · go_wp2
              go_quiet (fail)
              go_wp2
              go_roundw
              case rel => exact ⟨k + 1, t, _, by omega, by go_num, rfl, HF.out, fun a c => (HNO.out a (by omega)).elim, rfl, rfl⟩
              case measure => simp [intOf]; omega
        · have hf : rowP m q = false := row_false hlt (by rw [HA'.out]; simp [c1])
          have HF := Lib.hid hf
          clear hf
          by_cases c4 : m.S ≤ (q : Int)
          all_goals (go_wp2; go_quiet (fail); go_wp2; go_ret; exact ⟨ret_bool HF.out.symm, _, rfl⟩)
    · have hk3 : k = 3 := by omega
      subst hk3
      have HF := Lib.hid (show rowP m q = true from HU.out)
      go_wp2
      go_ret
      exact ⟨ret_bool HF.out.symm, _, rfl⟩
end Go.Proofs.Ytmacnofkpdikiaa
