/- codeOf, lead. -/
import Derived.Test.YtmacnofkpdikiaaV
import Derived.Test.YtmacnofkpdikiaaO
namespace Go.Proofs.Ytmacnofkpdikiaa
open Go.RowKit
set_option linter.unusedVariables false
set_option linter.unusedSimpArgs false

def codesP (m : Mch) (qs : List Int) (s : ByteArray) : Int := if machP m && wordP m.L s then (if qs.any (fun q => !inR q 0 (m.S - 1)) then 2 else 0) else 1
theorem codesP_one (m : Mch) (q : Int) (s : ByteArray) : codesP m [q] s = codeP m q s := by
  simp only [codesP, codeP, List.any_cons, List.any_nil, Bool.or_false]
  cases inR q 0 (m.S - 1) <;> rfl

theorem codeOf1_any (b o : Nat) (m : Mch) (hwf : m.Wf) (hok : m.Ok) (q : Int) (w : World) (hm : MAt w b o m) :
    Calls Try.prog 108 #[.int .i64 q, .pointer (some ⟨b, o, none⟩)] w fun e w' => e = .returned (.bool (!inR q 0 (m.S - 1))) ∧ w = w' := by
  go_enter Try.func108, Try.ntmps108
  go_wp2_with (go_at_call 109; refine (isState_any b o m hwf hok _ _ hm).mono ?_; rintro e w' ⟨rfl, rfl⟩)
  go_ret
  exact ⟨rfl, rfl⟩

set_option maxRecDepth 100000 in
set_option maxHeartbeats 1000000 in
theorem codeOf_any (m : Mch) (hwf : m.Wf) (a : Option Addr) (qs : List Int) (c : Nat) (hn : qs.length ≤ 100) (s : ByteArray) (hs : Short s) (w : World) (hq : IntsAt w a qs) :
    Calls Try.prog 75 #[.agg m.cells.toArray, .string s, .slice a qs.length c] w (Ret (.int .i64 (codesP m qs s)) w) := by
  have hm := MAt.boxed w m 44
  have hb0 := boxedBelow w m.cells.toArray 44
  have hmf : ∀ (fn : Fn) (first cap : Array Value) (w : World), (Instr.makeFunc fn first cap).run Try.prog w = .ok (.func fn first cap) w := fun _ _ _ _ => rfl
  have HC : Hid (codesP m qs s = if machP m && wordP m.L s then (if qs.any (fun q => !inR q 0 (m.S - 1)) then 2 else 0) else 1) := rfl
  have HS := Lib.hid hs
  have HN := Lib.hid hn
  have HQ := Lib.hid hq
  clear hs hn hq
  go_enter Try.func75, Try.ntmps75
  by_cases c1 : machP m = true
  · have hok := mach_ok c1
    by_cases c2 : wordP m.L s = true
    · go_wp2_with ((with_reducible refine ld_mach ?_ (.tmp 3) ?_ (w.heap.size) (0) ?_ m hm hwf ?_); exact rfl; exact rfl; exact rfl)
      refine (IsMachine_any m hwf _).mono ?_
      rintro e w1 ⟨rfl, hb1⟩
      have hm1 := hm.keep hb1 hwf
      have hl1 : w1.cell? ⟨w.heap.size, 0, none⟩ = some (.int .i64 m.L) := hm1.l
      have hbb := hb0.trans (hb1.mono hb0.size)
      rw [c1]
      go_wp2_with (go_at_call 97; refine (isWord_any _ _ _ HS.out).mono ?_; rintro e w' ⟨rfl, rfl⟩)
      refine (containsFuncI_any _ enters_codeOf #[.pointer (some ⟨w.heap.size, 0, none⟩)] a qs c (by have := HN.out; omega) (fun q => !inR q 0 (m.S - 1)) w1 (fun w' => w' = w1) rfl (fun w' h => by rw [h]; exact HQ.out.below hbb) (fun w' h i hi => by rw [h]; exact (codeOf1_any w.heap.size 0 m hwf hok _ w1 hm1).mono fun e w'' ⟨he, hw⟩ => ⟨he, hw.symm⟩)).mono ?_
      rintro e w2 ⟨rfl, rfl⟩
      have HF := Lib.hid (show codesP m qs s = if qs.any (fun q => !inR q 0 (m.S - 1)) then 2 else 0 by rw [HC.out]; simp [c1, c2])
      cases h : qs.any (fun q => !inR q 0 (m.S - 1))
      · rw [h] at HF
        clear h hmf
        go_wp2
        go_ret
        exact ⟨ret_int HF.out.symm, hbb⟩
      · rw [h] at HF
        clear h hmf
        go_wp2
        go_ret
        exact ⟨ret_int HF.out.symm, hbb⟩
    · have HF := Lib.hid (show codesP m qs s = 1 by rw [HC.out]; simp [c1, c2])
      have c2' : wordP m.L s = false := by simpa using c2
      clear c2
      go_wp2_with ((with_reducible refine ld_mach ?_ (.tmp 3) ?_ (w.heap.size) (0) ?_ m hm hwf ?_); exact rfl; exact rfl; exact rfl)
      refine (IsMachine_any m hwf _).mono ?_
      rintro e w1 ⟨rfl, hb1⟩
      have hm1 := hm.keep hb1 hwf
      have hl1 : w1.cell? ⟨w.heap.size, 0, none⟩ = some (.int .i64 m.L) := hm1.l
      rw [c1]
      go_wp2_with (go_at_call 97; refine (isWord_any _ _ _ HS.out).mono ?_; rintro e w' ⟨rfl, rfl⟩)
      go_ret
      exact ⟨ret_int HF.out.symm, hb0.trans (hb1.mono hb0.size)⟩
  · have HF := Lib.hid (show codesP m qs s = 1 by rw [HC.out]; simp [c1])
    have c1' : machP m = false := by simpa using c1
    clear c1
    go_wp2_with ((with_reducible refine ld_mach ?_ (.tmp 3) ?_ (w.heap.size) (0) ?_ m hm hwf ?_); exact rfl; exact rfl; exact rfl)
    refine (IsMachine_any m hwf _).mono ?_
    rintro e w1 ⟨rfl, hb1⟩
    rw [c1']
    go_wp2
    go_ret
    exact ⟨ret_int HF.out.symm, hb0.trans (hb1.mono hb0.size)⟩

end Go.Proofs.Ytmacnofkpdikiaa
