/- ActivityCounts of the program. -/
import Derived.Test.YtmacnofkpdikiaaQ1
namespace Go.Proofs.Ytmacnofkpdikiaa
open Go.RowKit
set_option linter.unusedVariables false
set_option linter.unusedSimpArgs false

theorem short_nil : Short ⟨#[]⟩ := by show (0 : Nat) ≤ _; omega
def actsC (m : Mch) (q n : Int) : Int := if codeP m q ⟨#[]⟩ = 0 then (if inR n 0 20 then 0 else 2) else codeP m q ⟨#[]⟩
def actsL (m : Mch) (q n : Int) : List Int := if actsC m q n = 0 then acts m q.toNat (n.toNat + 1) else []
/-- it returns a slice of numbers of its own and a code -/
def RetI (xs : List Int) (c : Int) (w : World) (e : Ending) (w' : World) : Prop := ∃ v, e = .returned (.tuple #[v, .int .i64 c]) ∧ Below w.heap.size w w' ∧ OwnI w' w.heap.size v xs
theorem OwnI.nil (w : World) (B : Nat) : OwnI w B (.slice none 0 0) [] := World.ownsRow_nil _ _ _ _

set_option maxRecDepth 100000 in
set_option maxHeartbeats 1000000 in
theorem implActivityCounts_any (m : Mch) (hwf : m.Wf) (q n : Int) (w : World) :
    Calls Try.prog 35 #[.agg m.cells.toArray, .int .i64 q, .int .i64 n] w (RetI (actsL m q n) (actsC m q n) w) := by
  have hm := MAt.boxed w m 44
  have hb0 := boxedBelow w m.cells.toArray 44
  have hI : IntsAt ((w.alloc (.cells m.cells.toArray 44)).alloc (.cells #[.int .i64 q] 2)) (some ⟨w.heap.size + 1, 0, none⟩) [q] := fun i hi => by
    have : i = 0 := by simpa using hi
    subst this
    have := (Blk.new (w.alloc (.cells m.cells.toArray 44)) #[.int .i64 q] 2).cell' (i := 0) rfl
    rw [show (w.alloc (.cells m.cells.toArray 44)).heap.size = w.heap.size + 1 by simp] at this
    exact ⟨_, 0, rfl, this⟩
  have hm0 := hm.alloc (by simp) (.cells #[.int .i64 q] 2)
  have hb00 := hb0.alloc (by simp) (.cells #[.int .i64 q] 2)
  have HR := Lib.hid (codeP_range m q ⟨#[]⟩)
  have HIQ := Lib.hid hI
  clear hI
  go_enter Try.func35, Try.ntmps35
  go_wp2_with ((with_reducible refine ld_mach ?_ (.tmp 3) ?_ (w.heap.size) (0) ?_ m hm hwf ?_); exact rfl; exact rfl; exact rfl)
  refine (codeOf_any m hwf _ [q] 1 (by simp) _ short_nil _ HIQ.out).mono ?_
  rintro e w1 ⟨rfl, hb1⟩
  rw [codesP_one]
  have hm1 := hm0.keep hb1 hwf
  have hbb1 := hb00.trans (hb1.mono hb00.size)
  by_cases c0 : codeP m q ⟨#[]⟩ = 0
  · by_cases c1 : inR n 0 20 = true
    · obtain ⟨hok, -, -, k, rfl, hk⟩ := code_zero c0
      obtain ⟨j, rfl, hj⟩ : ∃ j : Nat, n = j ∧ j ≤ 20 := ⟨n.toNat, by simp [inR] at c1; omega, by simp [inR] at c1; omega⟩
      have HA := Lib.hid (show actsC m k j = 0 by rw [actsC, if_pos c0, if_pos c1])
      have HL := Lib.hid (show actsL m k j = acts m k (j + 1) by rw [actsL, if_pos HA.out]; simp)
      rw [c0]
      clear c0
      go_wp2_with (go_at_call 56; refine (within_any _ _ _ _).mono ?_; rintro e w' ⟨rfl, rfl⟩)
      refine (activity_any w.heap.size 0 m hwf hok k hk j hj _ hm1).mono ?_
      rintro e w2 ⟨v, rfl, hb2, hO⟩
      have HB := Lib.hid (hbb1.trans (hb2.mono hbb1.size))
      have HO := Lib.hid (hO.less (C := w.heap.size) hbb1.size)
      clear hO
      go_wp2_with fail
      go_ret2
      rw [HL.out, HA.out]
      exact ⟨_, rfl, HB.out, HO.out⟩
    · have c1' : inR n 0 20 = false := by simpa using c1
      have HA := Lib.hid (show actsC m q n = 2 by rw [actsC, if_pos c0, if_neg c1])
      have HL := Lib.hid (show actsL m q n = [] by rw [actsL, if_neg (by rw [HA.out]; decide)])
      rw [c0]
      clear c0 c1
      go_wp2_with (go_at_call 56; refine (within_any _ _ _ _).mono ?_; rintro e w' ⟨rfl, rfl⟩)
      go_ret2
      rw [HL.out, HA.out]
      exact ⟨_, rfl, hbb1, OwnI.nil _ _⟩
  · have HA := Lib.hid (show actsC m q n = codeP m q ⟨#[]⟩ by rw [actsC, if_neg c0])
    have HL := Lib.hid (show actsL m q n = [] by rw [actsL, if_neg (by rw [HA.out]; exact c0)])
    have c1 : (codeP m q ⟨#[]⟩ != 0) = true := by simpa using c0
    clear c0
    generalize hc : codeP m q ⟨#[]⟩ = c at *
    clear hc
    go_wp2_with fail
    go_ret2
    rw [HL.out, HA.out]
    exact ⟨_, rfl, hbb1, OwnI.nil _ _⟩
end Go.Proofs.Ytmacnofkpdikiaa
