import Derived.Test.YteagecoiijhflaaYBall21
import Derived.Test.YteagecoiijhflaaYBall14
import Derived.Test.YteagecoiijhflaaYBall20
/- newBall and ballOf of the program. -/
namespace Go.Proofs.Yteagecoiijhflaa
open Go.RowKit
set_option linter.unusedVariables false
set_option linter.unusedSimpArgs false

/-- how many there are from one start to the next -/
def cntB : List Nat → Nat → List Nat
  | [], _ => []
  | [a], n => [n - a]
  | a :: b :: r, n => (b - a) :: cntB (b :: r) n
theorem cntB_snoc : ∀ (st : List Nat) (k n : Nat), cntB (st ++ [k]) n = cntB st k ++ [n - k]
  | [], _, _ => rfl
  | [a], _, _ => rfl
  | a :: b :: r, k, n => by
    have h := cntB_snoc (b :: r) k n
    simp only [List.cons_append, cntB] at h ⊢
    rw [h]
theorem cntB_len : ∀ (st : List Nat) (n : Nat), (cntB st n).length = st.length
  | [], _ => rfl
  | [a], _ => rfl
  | a :: b :: r, n => by simp only [cntB, List.length_cons, cntB_len (b :: r) n]
def lastN (st : List Nat) : Nat := st.getLast?.getD 0
theorem lastN_snoc (st : List Nat) (k : Nat) : lastN (st ++ [k]) = k := by simp [lastN]
/-- a ball in the memory, all of it newer than w -/
def BallAt (w w' : World) (m : Mch) (gs : List Int) (b : Nat) (s : Bs) (f : Nat) (cs : List Nat) : Prop := ∃ (w0 : World) (G : Nat) (ga : Option Addr) (gc : Nat) (vw vm vs : Value) (rw : List Value), Below w.heap.size w w0 ∧ GrpR w0 G m ∧ IntsAt w0 ga gs ∧ rw.length = s.length ∧
  Mg w0.heap.size w0 w' [(b, bcell G ga gs.length gc vw vm f vs, 97)] (ballG s vw rw vm vs cs ++ [])
theorem BallAt.below {w w' : World} {m : Mch} {gs : List Int} {b : Nat} {s : Bs} {f : Nat} {cs : List Nat} (h : BallAt w w' m gs b s f cs) : Below w.heap.size w w' := by
  obtain ⟨w0, G, ga, gc, vw, vm, vs, rw, h1, -, -, -, h5⟩ := h
  exact h1.trans (h5.below.mono h1.size)
theorem BallAt.since {w v w' : World} {m : Mch} {gs : List Int} {b : Nat} {s : Bs} {f : Nat} {cs : List Nat} (h : BallAt v w' m gs b s f cs) (hb : Below w.heap.size w v) : BallAt w w' m gs b s f cs := by
  obtain ⟨w0, G, ga, gc, vw, vm, vs, rw, h1, h2, h3, h4, h5⟩ := h
  exact ⟨w0, G, ga, gc, vw, vm, vs, rw, hb.trans (h1.mono hb.size), h2, h3, h4, h5⟩
/-- the next sphere -/
def RetGw (w : World) (m : Mch) (gs : List Int) (b : Nat) (s : Bs) (st : List Nat) (r : Except Int Bs) (e : Ending) (w' : World) : Prop := match r with
  | .error c => e = .returned (.int .i64 c) ∧ Below w.heap.size w w'
  | .ok s' => e = .returned (.int .i64 0) ∧ BallAt w w' m gs b s' s.length (cntB (st ++ [s.length]) s'.length)
theorem ballGrow_any (m : Mch) (hwf : m.Wf) (hok : m.Ok) (gs : List Int) (hgs : GW m gs) (h8 : gs.length ≤ 32) (w wr : World) (b : Nat) (s : Bs) (st : List Nat) (n : Nat) (hn : n ≤ 900) (hBs : BsOk m n s) (h1 : 1 ≤ s.length) (hst : ∀ i ∈ st, i ≤ s.length) (hsl : st.length ≤ 1000)
    (h : BallAt w wr m gs b s (lastN st) (cntB st s.length)) :
    Calls Try.prog 115 #[.pointer (some ⟨b, 0, none⟩)] wr (RetGw w m gs b s st (growS m (askG gs ((s.map (·.1)).drop (lastN st))) (.ok s))) := by
  obtain ⟨w0, G, ga, gc, vw, vm, vs, rw, k1, k2, k3, k4, k5⟩ := h
  have hf : lastN st ≤ s.length := by
    cases e : st.getLast? with
    | none => simp [lastN, e]
    | some a => simp only [lastN, e, Option.getD_some]; exact hst a (List.mem_of_getLast? e)
  refine (grow_any m hwf hok G w0 k2 b ga gc (lastN st) gs hgs h8 k3 vw vm vs rw (cntB st s.length) s [] n hn hBs h1 hf (by rw [cntB_len]; exact hsl) k4 wr k5).mono ?_
  intro e w' hR
  cases hr : growS m (askG gs ((s.map (·.1)).drop (lastN st))) (.ok s) with
  | error c =>
    rw [hr] at hR
    exact ⟨hR.1, k1.trans (hR.2.mono k1.size)⟩
  | ok s' =>
    rw [hr] at hR
    obtain ⟨rfl, vw', vm', vs', rw', hl, hM⟩ := hR
    exact ⟨rfl, w0, G, ga, gc, vw', vm', vs', rw', k1, k2, k3, hl, by rw [cntB_snoc]; exact hM⟩

def newR (m : Mch) : Except Int (Bs × List Nat) := if machP m = false then .error 1 else if (genI m).2 ≠ 0 then .error (genI m).2 else beginB m
theorem newR_off {m : Mch} (h : machP m = false) : newR m = .error 1 := if_pos h
theorem newR_code {m : Mch} (h : machP m = true) (h2 : (genI m).2 ≠ 0) : newR m = .error (genI m).2 := by unfold newR; rw [if_neg (by simp [h]), if_pos h2]
theorem newR_ok {m : Mch} (h : machP m = true) (h2 : ¬ (genI m).2 ≠ 0) : newR m = beginB m := by unfold newR; rw [if_neg (by simp [h]), if_neg h2]
def RetNB (w : World) (m : Mch) (r : Except Int (Bs × List Nat)) (e : Ending) (w' : World) : Prop := match r with
  | .error c => c ≠ 0 ∧ Below w.heap.size w w' ∧ ∃ p, e = .returned (.tuple #[p, .int .i64 c])
  | .ok (s, st) => ∃ b, e = .returned (.tuple #[.pointer (some ⟨b, 0, none⟩), .int .i64 0]) ∧ BallAt w w' m (genI m).1 b s (lastN st) (cntB st s.length)
theorem beginB_err {m : Mch} {c : Int} (h : putB m [] [] = .error c) : beginB m = .error c := by unfold beginB; rw [h]
theorem beginB_good {m : Mch} {s : Bs} (h : putB m [] [] = .ok s) : beginB m = .ok (s, [0]) := by unfold beginB; rw [h]
theorem putB_len {m : Mch} {w : Wd} {s : Bs} (h : putB m [] w = .ok s) : s.length = 1 := by
  cases hp : mwR m w with
  | none => rw [putB_none hp] at h; cases h
  | some M =>
    have h1 : ¬ 0 ≤ posM (([] : Bs).map (·.2)) M := by simp [posM, idxN]
    rw [putB_new hp h1 (by simp)] at h; cases h; rfl

set_option maxRecDepth 100000 in
set_option maxHeartbeats 4000000 in
theorem newBall_any (m : Mch) (hwf : m.Wf) (w : World) :
    Calls Try.prog 114 #[.agg m.cells.toArray] w (RetNB w m (newR m)) := by
  have hM0 := (Mg.start w).alloc m.cells.toArray 29
  have hm := hM0.mach 0 rfl
  have HIS := Lib.hid (IsMachine_any m hwf (w.alloc (.cells m.cells.toArray 29)))
  have HM0 := Lib.hid hM0
  clear hM0
  go_enter Try.func114, Try.ntmps114
  go_wp2_with ((with_reducible refine ld_mach ?_ (.tmp 1) ?_ (w.heap.size) (0) ?_ m hm hwf ?_); exact rfl; exact rfl; exact rfl)
  refine HIS.out.mono ?_
  rintro e w1 ⟨rfl, hb1⟩
  have hM1 := HM0.out.call hb1
  clear HM0 HIS hm hb1
  cases hp : machP m with
  | false =>
    have HD : Hid (newR m = .error 1) := newR_off hp
    have hb := hM1.below
    clear hM1 hp
    go_wp2_with fail
    go_ret2
    rw [HD.out]
    exact ⟨by decide, hb, _, rfl⟩
  | true =>
    have hok := mach_ok hp
    have hs16 := hok.s_le
    have HC := Lib.hid (newR_code hp)
    have HOK := Lib.hid (newR_ok hp)
    have HNG := Lib.hid (newGroup_any m hwf hok w1)
    have HGA : Hid (∀ G w, GrpR w G m → _) := fun G w hG => generatorsOf_any G m hwf hok w hG
    have HGW := Lib.hid (genI_gw m)
    have hm1 := hM1.mach 0 rfl
    have HM1 := Lib.hid hM1
    have hgl := genI_len m hs16
    clear hp hM1
    go_wp2_with ((with_reducible refine ld_mach ?_ (.tmp 1) ?_ (w.heap.size) (0) ?_ m hm1 hwf ?_); exact rfl; exact rfl; exact rfl)
    refine HNG.out.mono ?_
    rintro e w2 ⟨G, rfl, hb2, hG⟩
    have HM2 := Lib.hid (HM1.out.call hb2)
    have HGC := Lib.hid (HGA.out G w2 hG)
    have HG2 := Lib.hid hG
    clear HNG hG HM1 hm1 hb2 HGA
    go_wp2_with fail
    refine HGC.out.mono ?_
    rintro e w3 ⟨v, rfl, hb3, hO3⟩
    obtain ⟨a, c, rfl, hI⟩ := id hO3.form
    have HI := Lib.hid hI
    have HG3 := Lib.hid (HG2.out.keep hb3)
    have hbb := (HM2.out.call hb3).below
    clear HGC hO3 hb3 HM2 hI HG2
    by_cases h0 : (genI m).2 = 0
    · have HD := Lib.hid (HOK.out (by simpa using h0))
      rw [h0]
      have hM4 := ((((Mg.start w3).newOwn #[.int .i64 1] 2 1 1 rfl (by omega)).alloc (bcell G a (genI m).1.length c (.slice none 0 0) (.slice none 0 0) 0 (.slice (some ⟨w3.heap.size, 0, none⟩) 1 1)).toArray 97).addNil 29 98 |>.addNil 26 1).addNil 2 1
      rw [World.size_alloc] at hM4
      have HPU := Lib.hid (put_any m hwf hok G w3 HG3.out (w3.heap.size + 1) a (genI m).1.length c 0 (.slice none 0 0) (.slice none 0 0) (.slice (some ⟨w3.heap.size, 0, none⟩) 1 1) [] [1] [] [] none [] 0 (GW.nil m) (by simp) (fun M h => by cases h) (by simp) rfl _ hM4)
      have HBB : Hid (Below w.heap.size w w3) := hbb
      clear hM4 h0 HC HOK
      go_wp2_with fail
      refine HPU.out.mono ?_
      intro e w7 hR7
      cases hp : putB m [] [] with
      | error cc =>
        rw [hp] at hR7
        obtain ⟨rfl, hb7⟩ := hR7
        have HD2 : Hid (newR m = .error cc) := HD.out.trans (beginB_err hp)
        obtain rfl := putB_err hp
        clear HPU hp
        go_wp2_with fail
        go_ret2
        rw [HD2.out]
        exact ⟨by decide, HBB.out.trans (hb7.mono HBB.out.size), _, rfl⟩
      | ok s =>
        rw [hp] at hR7
        obtain ⟨rfl, vw, vm, rw, hl7, -, hM7, -⟩ := hR7
        have HD2 : Hid (newR m = .ok (s, [0])) := HD.out.trans (beginB_good hp)
        have HL7 := Lib.hid hl7
        have HM7 := Lib.hid hM7
        have HSL := Lib.hid (putB_len hp)
        clear HPU hp hM7 hl7
        go_wp2_with fail
        go_ret2
        rw [HD2.out]
        have e1 : cntB [0] s.length = [1] := by rw [HSL.out]; rfl
        exact ⟨_, rfl, by rw [e1]; exact ⟨w3, G, a, c, vw, vm, _, rw, HBB.out, HG3.out, HI.out, HL7.out, HM7.out⟩⟩
    · have HD := Lib.hid (HC.out h0)
      generalize (genI m).2 = cc at *
      have j1 : (cc != 0) = true := by simpa using h0
      clear HC HOK
      go_wp2_with fail
      go_ret2
      rw [HD.out]
      exact ⟨h0, hbb, _, rfl⟩

def ballI (m : Mch) (r : Int) : Except Int (Bs × List Nat) := if machP m = false then .error 1 else if inR r 0 5 = false then .error 2 else if (genI m).2 ≠ 0 then .error (genI m).2 else ballR m (genI m).1 r.toNat
theorem ballI_off {m : Mch} {r : Int} (h : machP m = false) : ballI m r = .error 1 := if_pos h
theorem ballI_range {m : Mch} {r : Int} (h : machP m = true) (h2 : inR r 0 5 = false) : ballI m r = .error 2 := by unfold ballI; rw [if_neg (by simp [h]), if_pos h2]
theorem ballI_new {m : Mch} {r : Int} (h : machP m = true) (h2 : inR r 0 5 = true) {c : Int} (h3 : newR m = .error c) : ballI m r = .error c := by
  unfold ballI; rw [if_neg (by simp [h]), if_neg (by simp [h2])]
  by_cases h4 : (genI m).2 ≠ 0
  · rw [newR_code h h4] at h3; rw [if_pos h4]; exact h3
  · rw [newR_ok h h4] at h3
    rw [if_neg h4]
    have hz : ∀ n, ballR m (genI m).1 n = .error c := fun n => by
      induction n with
      | zero => rw [ballR_zero]; exact h3
      | succ n ih => rw [ballR_succ, ih, stepB_err]
    exact hz _
theorem ballI_ok {m : Mch} {r : Int} (h : machP m = true) (h2 : inR r 0 5 = true) {x : Bs × List Nat} (h3 : newR m = .ok x) : ballI m r = ballR m (genI m).1 r.toNat := by
  unfold ballI; rw [if_neg (by simp [h]), if_neg (by simp [h2])]
  by_cases h4 : (genI m).2 ≠ 0
  · rw [newR_code h h4] at h3; cases h3
  · rw [if_neg h4]
theorem newR_zero {m : Mch} (h : machP m = true) {x : Bs × List Nat} (h3 : newR m = .ok x) : ballR m (genI m).1 0 = .ok x := by
  by_cases h4 : (genI m).2 ≠ 0
  · rw [newR_code h h4] at h3; cases h3
  · rw [newR_ok h h4] at h3; rw [ballR_zero]; exact h3
theorem stepB_bad {m : Mch} {gs : List Int} {s : Bs} {st : List Nat} {c : Int} (h : growS m (askG gs ((s.map (·.1)).drop (lastN st))) (.ok s) = .error c) : stepB m gs (.ok (s, st)) = .error c := by
  unfold stepB; simp only; unfold lastN at h; rw [h]
theorem stepB_good {m : Mch} {gs : List Int} {s s' : Bs} {st : List Nat} (h : growS m (askG gs ((s.map (·.1)).drop (lastN st))) (.ok s) = .ok s') : stepB m gs (.ok (s, st)) = .ok (s', st ++ [s.length]) := by
  unfold stepB; simp only; unfold lastN at h; rw [h]
/-- a result, or a code that is not 0 -/
def RetB (w : World) (m : Mch) (r : Except Int (Bs × List Nat)) (e : Ending) (w' : World) : Prop := match r with
  | .error c => c ≠ 0 ∧ Below w.heap.size w w' ∧ ∃ p, e = .returned (.tuple #[p, .int .i64 c])
  | .ok (s, st) => ∃ b, e = .returned (.tuple #[.pointer (some ⟨b, 0, none⟩), .int .i64 0]) ∧ BallAt w w' m (genI m).1 b s (lastN st) (cntB st s.length)
theorem ballR_pos {m : Mch} {gs : List Int} (r : Nat) : ∀ {s : Bs} {st : List Nat}, ballR m gs r = .ok (s, st) → 1 ≤ s.length := by
  induction r with
  | zero =>
    intro s st h
    rw [ballR_zero] at h
    obtain ⟨hp, -⟩ := beginB_ok m h
    rw [putB_len hp]; exact Nat.le_refl _
  | succ r ih =>
    intro s st h
    rw [ballR_succ] at h
    obtain ⟨s1, st1, hb, hgr, -⟩ := stepB_ok m gs _ h
    obtain ⟨R, hR⟩ := growS_pre _ _ _ hgr
    have := ih hb
    rw [hR, List.length_append]; omega

set_option maxRecDepth 100000 in
set_option maxHeartbeats 4000000 in
theorem ballOf_any (m : Mch) (hwf : m.Wf) (r : Int) (w : World) :
    Calls Try.prog 76 #[.agg m.cells.toArray, .int .i64 r] w (RetB w m (ballI m r)) := by
  have hM0 := (Mg.start w).alloc m.cells.toArray 29
  have hm := hM0.mach 0 rfl
  have HIS := Lib.hid (IsMachine_any m hwf (w.alloc (.cells m.cells.toArray 29)))
  have HM0 := Lib.hid hM0
  clear hM0
  go_enter Try.func76, Try.ntmps76
  go_wp2_with ((with_reducible refine ld_mach ?_ (.tmp 2) ?_ (w.heap.size) (0) ?_ m hm hwf ?_); exact rfl; exact rfl; exact rfl)
  refine HIS.out.mono ?_
  rintro e w1 ⟨rfl, hb1⟩
  have hM1 := HM0.out.call hb1
  clear HM0 HIS hm hb1
  cases hp : machP m with
  | false =>
    have HD : Hid (ballI m r = .error 1) := ballI_off hp
    have hb := hM1.below
    clear hM1 hp
    go_wp2_with fail
    go_ret2
    rw [HD.out]
    exact ⟨by decide, hb, _, rfl⟩
  | true =>
    have HRW := Lib.hid (within_any r 0 5)
    cases hr : inR r 0 5 with
    | false =>
      have HD : Hid (ballI m r = .error 2) := ballI_range hp hr
      have hb := hM1.below
      rw [hr] at HRW
      clear hM1 hp hr
      go_wp2_with (go_at_call 59; refine (HRW.out _).mono ?_; rintro e w' ⟨rfl, rfl⟩)
      go_ret2
      rw [HD.out]
      exact ⟨by decide, hb, _, rfl⟩
    | true =>
      obtain ⟨n, rfl⟩ : ∃ n : Nat, r = (n : Int) := ⟨r.toNat, by simp only [inR, Bool.and_eq_true, decide_eq_true_eq] at hr; omega⟩
      have hn : n ≤ 5 := by simp only [inR, Bool.and_eq_true, decide_eq_true_eq] at hr; omega
      have hok := mach_ok hp
      have hs16 := hok.s_le
      have HNE : Hid (∀ c, newR m = .error c → ballI m (n : Int) = .error c) := fun c h => ballI_new hp hr h
      have HNO : Hid (∀ x, newR m = .ok x → ballI m (n : Int) = ballR m (genI m).1 n ∧ ballR m (genI m).1 0 = .ok x) := fun x h => ⟨ballI_ok hp hr h, newR_zero hp h⟩
      have HNB := Lib.hid (newBall_any m hwf w1)
      have HGW := Lib.hid (genI_gw m)
      have hgl := genI_len m hs16
      have hm1 := hM1.mach 0 rfl
      have HB1 := Lib.hid hM1.below
      have HGA : Hid (∀ wr b s st n, n ≤ 900 → BsOk m n s → 1 ≤ s.length → (∀ i ∈ st, i ≤ s.length) → st.length ≤ 1000 → BallAt w wr m (genI m).1 b s (lastN st) (cntB st s.length) → _) := fun wr b s st n k1 k2 k3 k4 k5 h => ballGrow_any m hwf hok (genI m).1 HGW.out hgl w wr b s st n k1 k2 k3 k4 k5 h
      rw [hr] at HRW
      clear hp hok hM1 hr
      go_wp2_with (first | (go_at_call 59; refine (HRW.out _).mono ?_; rintro e w' ⟨rfl, rfl⟩) | ((with_reducible refine ld_mach ?_ (.tmp 2) ?_ (w.heap.size) (0) ?_ m hm1 hwf ?_); exact rfl; exact rfl; exact rfl))
      refine HNB.out.mono ?_
      intro e w2 hR2
      have HBR : Hid (∀ s st, ballR m (genI m).1 n = .ok (s, st) → BsOk m n s ∧ st.length = n + 1 ∧ ∀ i ∈ st, i ≤ s.length) := fun s st h => ballR_ok HGW.out n h
      generalize hgs : (genI m).1 = gs at *
      cases hnr : newR m with
      | error c =>
        rw [hnr] at hR2
        obtain ⟨hc, hb2, p, rfl⟩ := hR2
        have HD := Lib.hid (HNE.out c hnr)
        have HB2 := Lib.hid (HB1.out.trans (hb2.mono HB1.out.size))
        have HC := Lib.hid hc
        have j1 : (c == 0) = false := by simpa using hc
        have j2 : (c != 0) = true := by simpa using hc
        clear HNB hnr hm1 hb2 hc
        go_wp2_with fail
        go_loopw [7, 20] (fun cv iv wr => ∃ i : Nat, i ≤ n ∧ iv = .int .i64 (i : Int) ∧ cv = .int .i64 c ∧ Below w.heap.size w wr) (fun _ i _ => n - (intOf i).toNat)
        case atStart => exact ⟨0, Nat.zero_le _, rfl, rfl, HB2.out⟩
        case round =>
          clear HB2
          obtain ⟨i, hi, rfl, rfl, hb⟩ := hrel
          have ei : IntKind.i64.wrap ((i : Int) + 1) = (i : Int) + 1 := IntWalk.i64_in _ (by omega)
          by_cases hlt : i < n
          · have i2 : (i : Int) < (n : Int) := by omega
            go_wp2_with fail
            go_roundw
            case rel => exact ⟨i + 1, by omega, by go_num, rfl, hb⟩
            case measure => simp [intOf] <;> omega
          · have i2 : ¬ ((i : Int) < (n : Int)) := by omega
            go_wp2_with fail
            go_ret2
            rw [HD.out]
            exact ⟨HC.out, hb, _, rfl⟩
      | ok x =>
        obtain ⟨s0, st0⟩ := x
        rw [hnr] at hR2
        obtain ⟨b, rfl, hBA⟩ := hR2
        obtain ⟨hBI, hB0⟩ := HNO.out _ hnr
        have HD := Lib.hid hBI
        have HB0 := Lib.hid hB0
        have HBA := Lib.hid (hBA.since HB1.out)
        have HBO : Hid (∀ k s st, ballR m gs k = .ok (s, st) → BsOk m k s ∧ st.length = k + 1 ∧ (∀ i ∈ st, i ≤ s.length) ∧ 1 ≤ s.length) := fun k s st h => ⟨(ballR_ok HGW.out k h).1, (ballR_ok HGW.out k h).2.1, (ballR_ok HGW.out k h).2.2, ballR_pos k h⟩
        have HSU : Hid (∀ k, ballR m gs (k + 1) = stepB m gs (ballR m gs k)) := fun k => ballR_succ m gs k
        rw [hgs] at hBA
        clear HNB hnr hm1 hBI hB0 hBA HNE HNO HBR
        go_wp2_with fail
        go_loopw [7, 20] (fun cv iv wr => ∃ i : Nat, i ≤ n ∧ iv = .int .i64 (i : Int) ∧ ((∃ c, cv = .int .i64 c ∧ c ≠ 0 ∧ Below w.heap.size w wr ∧ Hid (ballR m gs i = .error c)) ∨ ∃ s st, cv = .int .i64 0 ∧ Hid (ballR m gs i = .ok (s, st)) ∧ Hid (BallAt w wr m gs b s (lastN st) (cntB st s.length)))) (fun _ i _ => n - (intOf i).toNat)
        case atStart => exact ⟨0, Nat.zero_le _, rfl, .inr ⟨s0, st0, rfl, HB0.out, by have := HBA.out; rw [hgs] at this; exact this⟩⟩
        case round =>
          clear HBA HB0
          obtain ⟨i, hi, rfl, hcase⟩ := hrel
          have ei : IntKind.i64.wrap ((i : Int) + 1) = (i : Int) + 1 := IntWalk.i64_in _ (by omega)
          rcases hcase with ⟨c, rfl, hc, hb, HE⟩ | ⟨s, st, rfl, HS, HBA⟩
          · have j1 : (c == 0) = false := by simpa using hc
            have j2 : (c != 0) = true := by simpa using hc
            by_cases hlt : i < n
            · have i2 : (i : Int) < (n : Int) := by omega
              have HE2 : Hid (ballR m gs (i + 1) = .error c) := by show _ = _; rw [HSU.out, HE.out, stepB_err]
              go_wp2_with fail
              go_roundw
              case rel => exact ⟨i + 1, by omega, by go_num, .inl ⟨c, rfl, hc, hb, HE2.out⟩⟩
              case measure => simp [intOf] <;> omega
            · have i2 : ¬ ((i : Int) < (n : Int)) := by omega
              have hin : i = n := by omega
              have HE2 : Hid (ballI m (n : Int) = .error c) := by show _ = _; rw [HD.out, ← hin]; exact HE.out
              have HC := Lib.hid hc
              clear hc hin
              go_wp2_with fail
              go_ret2
              rw [HE2.out]
              exact ⟨HC.out, hb, _, rfl⟩
          · by_cases hlt : i < n
            · have i2 : (i : Int) < (n : Int) := by omega
              obtain ⟨k1, k2, k3, k4⟩ := HBO.out i s st HS.out
              have HG := Lib.hid (HGA.out wr b s st i (by omega) k1 k4 k3 (by omega) HBA.out)
              clear k1 k2 k3 k4
              go_wp2_with fail
              refine HG.out.mono ?_
              intro e w5 hR5
              cases hgr : growS m (askG gs ((s.map (·.1)).drop (lastN st))) (.ok s) with
              | error c =>
                rw [hgr] at hR5
                obtain ⟨rfl, hb5⟩ := hR5
                have HE2 : Hid (ballR m gs (i + 1) = .error c) := by show _ = _; rw [HSU.out, HS.out, stepB_bad hgr]
                have HC : Hid (c ≠ 0) := by rw [growS_code _ _ hgr]; exact (by decide : (3 : Int) ≠ 0)
                clear HG hgr
                go_wp2_with fail
                go_roundw
                case rel => exact ⟨i + 1, by omega, by go_num, .inl ⟨c, rfl, HC.out, hb5, HE2.out⟩⟩
                case measure => simp [intOf] <;> omega
              | ok s5 =>
                rw [hgr] at hR5
                obtain ⟨rfl, hB5⟩ := hR5
                have HE2 : Hid (ballR m gs (i + 1) = .ok (s5, st ++ [s.length])) := by show _ = _; rw [HSU.out, HS.out, stepB_good hgr]
                have HB5 : Hid (BallAt w w5 m gs b s5 (lastN (st ++ [s.length])) (cntB (st ++ [s.length]) s5.length)) := by show BallAt _ _ _ _ _ _ _ _; rw [lastN_snoc]; exact hB5
                clear HG hgr hB5
                go_wp2_with fail
                go_roundw
                case rel => exact ⟨i + 1, by omega, by go_num, .inr ⟨s5, _, rfl, HE2.out, HB5.out⟩⟩
                case measure => simp [intOf] <;> omega
            · have i2 : ¬ ((i : Int) < (n : Int)) := by omega
              have hin : i = n := by omega
              have HE2 : Hid (ballI m (n : Int) = .ok (s, st)) := by show _ = _; rw [HD.out, ← hin]; exact HS.out
              clear hin
              go_wp2_with fail
              go_ret2
              rw [HE2.out]
              exact ⟨_, rfl, by rw [hgs]; exact HBA.out⟩
end Go.Proofs.Yteagecoiijhflaa

/- l10First: the ball of radius 0, of the reference. -/
namespace Go.Proofs.Yteagecoiijhflaa
open Go.RowKit
set_option linter.unusedVariables false
set_option linter.unusedSimpArgs false

/-- the slices of a ball of the reference -/
def ballS (s : Bs) (vw : Value) (rw : List Value) (vm vs : Value) (st : List Nat) : List Gr :=
  ⟨vw, 26, 1, s.length, rw⟩ :: ⟨vm, 29, 98, s.length, cellsM (s.map (·.2))⟩ :: ⟨vs, 3, 1, st.length, i64s (natsI st)⟩ :: (rowG rw (s.map (·.1))).map Gr.of
theorem ballS_new {s : Bs} {wd : Wd} {M : Mch} {v vw vm vs : Value} {rw : List Value} {st : List Nat} {GR : List Gr} (hl : rw.length = s.length) :
    (⟨v, 2, 1, wd.length, i64s wd⟩ :: ⟨vw, 26, 1, s.length + 1, rw ++ [v]⟩ :: ⟨vm, 29, 98, s.length + 1, cellsM (s.map (·.2)) ++ M.cells⟩ :: ⟨vs, 3, 1, st.length, i64s (natsI st)⟩ :: ((rowG rw (s.map (·.1))).map Gr.of ++ GR) : List Gr).Perm (ballS (s ++ [(wd, M)]) vw (rw ++ [v]) vm vs st ++ GR) := by
  have e1 : rowG (rw ++ [v]) ((s ++ [(wd, M)]).map (·.1)) = rowG rw (s.map (·.1)) ++ [(v, 2, i64s wd)] := by
    rw [List.map_append]
    exact rowG_snoc v wd (by rw [hl, List.length_map])
  have e2 : Gr.of (v, 2, i64s wd) = ⟨v, 2, 1, wd.length, i64s wd⟩ := by simp [Gr.of, i64s]
  unfold ballS
  rw [e1]
  simp only [List.map_append, List.map_cons, List.map_nil, e2, List.length_append, List.length_singleton, cellsM_snoc, List.cons_append, List.append_assoc, List.nil_append]
  refine ((List.Perm.swap _ _ _).trans (List.Perm.cons _ ((List.Perm.swap _ _ _).trans (List.Perm.cons _ ((List.Perm.swap _ _ _).trans (List.Perm.cons _ List.perm_middle.symm))))))
/-- a ball as a value, or a code that is not 0 -/
def RetS3 (B : Nat) (w0 w : World) (r : Except Int (Bs × List Nat)) (e : Ending) (w' : World) : Prop := match r with
  | .error c => c ≠ 0 ∧ Below B w0 w' ∧ ∃ x y z, e = .returned (.tuple #[.agg #[x, y, z], .int .i64 c]) ∧ x.oneCell' = true ∧ y.oneCell' = true ∧ z.oneCell' = true
  | .ok (s, st) => ∃ vw vm vs rw, e = .returned (.tuple #[.agg #[vw, vm, vs], .int .i64 0]) ∧ rw.length = s.length ∧ Mg B w0 w' [] (ballS s vw rw vm vs st)
theorem posM_nil (M : Mch) : ¬ 0 ≤ posM (([] : Bs).map (·.2)) M := by simp [posM, idxN]
theorem beginB_none {m : Mch} (h : mwR m [] = none) : beginB m = .error 3 := beginB_err (putB_none h)
theorem beginB_some {m : Mch} {M : Mch} (h : mwR m [] = some M) : beginB m = .ok ([([], M)], [0]) := beginB_good (putB_new h (posM_nil M) (by simp))

def zeroM : Mch := ⟨0, 0, List.replicate 48 0, List.replicate 48 0⟩
theorem zeroM_eq : Try.zeroCells29 = zeroM.cells.toArray := by
  apply Array.toList_inj.1
  rfl
theorem zeroM_wf : zeroM.Wf := by
  have h := paM_wf (L := 0) (S := 0) (d := 0) (f := fun _ _ => 0) (g := fun _ _ => 0) (q := 0) (x := 0) (y := 0) (by omega) (by omega)
  rw [paM, gaP_zero] at h
  exact h (fun _ _ _ _ => by omega) (fun _ _ _ _ => by omega)
set_option maxRecDepth 100000 in
set_option maxHeartbeats 400000 in
theorem l10First_any (m : Mch) (hwf : m.Wf) (hok : m.Ok) (w : World) :
    Calls Try.prog 118 #[.agg m.cells.toArray] w (RetS3 w.heap.size w w (beginB m)) := by
  have hM0 := ((Mg.start w).alloc m.cells.toArray 29).alloc #[.slice none 0 0, .slice none 0 0, .slice none 0 0] 90
  rw [World.size_alloc] at hM0
  have hm := hM0.mach 1 rfl
  have hM1 := hM0.newOwn #[] 2 1 0 rfl (by omega)
  rw [World.size_alloc, World.size_alloc] at hM1
  have HMA : Hid (∀ b W, Calls Try.prog 119 #[.agg m.cells.toArray, .slice (some ⟨b, 0, none⟩) 0 0] W (RetM (mwR m []) W)) := fun b W => l02Machine_any m hwf hok (some ⟨b, 0, none⟩) [] 0 (GW.nil m) (by simp) W (fun i hi => absurd hi (by simp))
  have HM1 := Lib.hid hM1
  have HWM := Lib.hid (fun M h => mwT_wf (M := M) hok hwf (GW.nil m) h)
  have HIZ : Hid ((Try.prog.info? 29).map (·.size) = some Try.zeroCells29.toList.length) := by show _ = _; rw [zero_len]; kernel_rfl
  have HOZ : Hid (∀ v ∈ Try.zeroCells29.toList, v.oneCell' = true) := zero_ones
  clear hM0 hM1
  go_enter Try.func118, Try.ntmps118
  go_wp2_with ((with_reducible refine ld_mach ?_ (.tmp 1) ?_ (w.heap.size) (0) ?_ m hm hwf ?_); exact rfl; exact rfl; exact rfl)
  refine (HMA.out _ _).mono ?_
  rintro e w1 ⟨hb1, hR1⟩
  obtain ⟨Mx, cx, rfl, hMx, hcase⟩ : ∃ (Mx : Mch) (cx : Int), e = .returned (.tuple #[.agg Mx.cells.toArray, .int .i64 cx]) ∧ Mx.Wf ∧ ((mwR m [] = none ∧ cx = 3) ∨ (mwR m [] = some Mx ∧ cx = 0)) := by
    cases hp : mwR m [] with
    | none => rw [hp] at hR1; exact ⟨zeroM, 3, by rw [← zeroM_eq]; exact hR1, zeroM_wf, .inl ⟨rfl, rfl⟩⟩
    | some M => rw [hp] at hR1; exact ⟨M, 0, hR1, HWM.out M hp, .inr ⟨rfl, rfl⟩⟩
  have hM2 := (HM1.out.call hb1).alloc Try.zeroCells29 29
  have HCA := Lib.hid hcase
  have HIM := Lib.hid (mach_infoT hMx)
  have HOM := Lib.hid (mach_ones Mx)
  have hML := Mch.cells_length hMx
  have ht := (hM2.at 0 rfl).there 0 Mx.cells.length (by simp only; rw [zero_len, hML]; omega)
  have HM3 : Hid (Mg w.heap.size w ((w1.alloc (.cells Try.zeroCells29 29)).setCells w1.heap.size 0 Mx.cells) [(w1.heap.size, Mx.cells, 29), (w.heap.size + 1, [.slice none 0 0, .slice none 0 0, .slice none 0 0], 90), (w.heap.size, m.cells, 29)] []) := (hM2.setAll 0 rfl (vs := Mx.cells) (by rw [zero_len, hML])).subG (List.nil_sublist _)
  have HLD : Hid (∀ W b4, Mg w.heap.size w W [(b4, Mx.cells, 29), (w.heap.size + 1, [.slice none 0 0, .slice none 0 0, .slice none 0 0], 90), (w.heap.size, m.cells, 29)] [] → Mg w.heap.size w ((W.alloc (.cells #[] 2)).alloc (.cells #[.slice (some ⟨W.heap.size, 0, none⟩) 0 0] 26)) [(b4, Mx.cells, 29), (w.heap.size + 1, [.slice none 0 0, .slice none 0 0, .slice none 0 0], 90), (w.heap.size, m.cells, 29)] [⟨.slice (some ⟨W.heap.size + 1, 0, none⟩) 1 1, 26, 1, 1, [.slice (some ⟨W.heap.size, 0, none⟩) 0 0]⟩, ⟨.slice (some ⟨W.heap.size, 0, none⟩) 0 0, 2, 1, 0, []⟩]) := fun W b4 h => by
    have h2 := (h.newOwn #[] 2 1 0 rfl (by omega)).newOwn #[.slice (some ⟨W.heap.size, 0, none⟩) 0 0] 26 1 1 rfl (by omega)
    rw [World.size_alloc] at h2
    exact h2
  have HFI : Hid (∀ W b4 X, X.toList = Mx.cells → Mg w.heap.size w W [(b4, Mx.cells, 29), (w.heap.size + 1, [.slice none 0 0, .slice none 0 0, .slice none 0 0], 90), (w.heap.size, m.cells, 29)] [] → Mg w.heap.size w ((((W.alloc (.cells #[] 2)).alloc (.cells #[.slice (some ⟨W.heap.size, 0, none⟩) 0 0] 26)).alloc (.cells X 29)).alloc (.cells #[.int .i64 0] 3)) [(b4, Mx.cells, 29), (w.heap.size + 1, [.slice none 0 0, .slice none 0 0, .slice none 0 0], 90), (w.heap.size, m.cells, 29)] (ballS [([], Mx)] (.slice (some ⟨W.heap.size + 1, 0, none⟩) 1 1) [.slice (some ⟨W.heap.size, 0, none⟩) 0 0] (.slice (some ⟨W.heap.size + 1 + 1, 0, none⟩) 1 1) (.slice (some ⟨W.heap.size + 1 + 1 + 1, 0, none⟩) 1 1) [0])) := fun W b4 X hX h => by
    have h2 := (((h.newOwn #[] 2 1 0 rfl (by omega)).newOwn #[.slice (some ⟨W.heap.size, 0, none⟩) 0 0] 26 1 1 rfl (by omega)).newOwn X 29 98 1 (by rw [hX, hML]) (by omega)).newOwn #[.int .i64 0] 3 1 1 rfl (by omega)
    simp only [World.size_alloc] at h2
    rw [hX] at h2
    have e1 : cellsM (List.map (·.2) [(([] : Wd), Mx)]) = Mx.cells := by simp [cellsM]
    have h3 := h2.permG (((List.Perm.swap _ _ _).trans ((List.Perm.swap _ _ _).cons _)).trans (List.Perm.swap _ _ _))
    unfold ballS
    rw [e1]
    exact h3
  have HI3' : (Try.prog.info? 90).map (·.size) = some 3 := by kernel_rfl
  have HI3 : Hid (∀ a b c : Value, (Try.prog.info? 90).map (·.size) = some [a, b, c].length) := fun _ _ _ => HI3'
  have HI4 := Lib.hid HI3'
  clear HI3'
  have hlen98 : Mx.cells.length = 98 := hML
  clear hM2 HMA HM1 hb1 hm HWM hcase hML
  generalize hb4 : w1.heap.size = b4 at *
  go_wp2_with (first
    | ((with_reducible refine st_row ?_ 29 (.tmp 4) (.tmp 10) ?_ b4 0 Mx.cells ?_ ?_ ht HIM.out HOM.out ?_); exact rfl; exact rfl; exact rfl; exact rfl; clear ht; generalize (w1.alloc (.cells Try.zeroCells29 29)).setCells b4 0 Mx.cells = W3 at *)
    | ((with_reducible refine ld_mach ?_ (.tmp 4) ?_ b4 0 ?_ Mx ((HLD.out _ _ HM3.out).mach 0 rfl) hMx ?_); exact rfl; exact rfl; exact rfl)
    | (generalize hX : List.foldl _ _ (List.zipIdx Mx.cells) = X; have HX : Hid (X.toList = Mx.cells) := (by show _ = _; rw [← hX]; exact fold_zip (by rw [hlen98]; rfl)); clear hX;
       (with_reducible refine st_row ?_ 90 (.tmp 2) (.tmp 18) ?_ (w.heap.size + 1) 0 [.slice (some ⟨W3.heap.size + 1, 0, none⟩) 1 1, .slice (some ⟨W3.heap.size + 1 + 1, 0, none⟩) 1 1, .slice (some ⟨W3.heap.size + 1 + 1 + 1, 0, none⟩) 1 1] ?_ ?_ ?_ (HI3.out _ _ _) ?_ ?_); exact rfl; exact rfl; exact rfl; exact rfl; exact (((HFI.out _ _ X HX.out HM3.out).at 1 rfl).there 0 3 (by simp)); (simp [Value.oneCell'])))
  have hM7 := (HFI.out _ _ X HX.out HM3.out).setAll 1 rfl (vs := [.slice (some ⟨W3.heap.size + 1, 0, none⟩) 1 1, .slice (some ⟨W3.heap.size + 1 + 1, 0, none⟩) 1 1, .slice (some ⟨W3.heap.size + 1 + 1 + 1, 0, none⟩) 1 1]) rfl
  have HB := Lib.hid (hM7.at 1 rfl)
  refine bodyPost_ret (v := .tuple #[.agg #[.slice (some ⟨W3.heap.size + 1, 0, none⟩) 1 1, .slice (some ⟨W3.heap.size + 1 + 1, 0, none⟩) 1 1, .slice (some ⟨W3.heap.size + 1 + 1 + 1, 0, none⟩) 1 1], .int .i64 cx]) (results_ct Try.results118 _ _ (w.heap.size + 1) 90 #[.slice (some ⟨W3.heap.size + 1, 0, none⟩) 1 1, .slice (some ⟨W3.heap.size + 1 + 1, 0, none⟩) 1 1, .slice (some ⟨W3.heap.size + 1 + 1 + 1, 0, none⟩) 1 1] (0, 0) (.struct _) rfl HB.out Try.underlying90 rfl HI4.out) rfl ?_
  rcases HCA.out with ⟨hp, rfl⟩ | ⟨hp, rfl⟩
  · rw [beginB_none hp]
    exact ⟨by decide, hM7.below, _, _, _, rfl, rfl, rfl, rfl⟩
  · rw [beginB_some hp]
    exact ⟨_, _, _, _, rfl, rfl, hM7.sub (List.nil_sublist _)⟩
end Go.Proofs.Yteagecoiijhflaa

/- append of a whole row of one's own to another. -/
namespace Go.Proofs.Yteagecoiijhflaa
open Go.RowKit
set_option linter.unusedVariables false
set_option linter.unusedSimpArgs false
section
variable {B : Nat} {w0 w : World} {L : List (Nat × List Value × TypeId)} {G : List Gr}
theorem Mg.appendRowQ {P : Program} {ops : Array Oper} {o : Oper} {a : Act} {K : Act → World → Prop} {Q : Exit → Act → World → Prop} (hwd : Region.wanted o (yielded ops a.tmps) = true) (s x : Operand) (t : TypeId)
    (ho : o.op = .call { callee := .builtin .append, args := #[s, x], argTypes := #[t, t] })
    (h : Mg B w0 w L G) (i : Nat) {v : Value} {E sz n : Nat} {xs : List Value} (hi : G[i]? = some ⟨v, E, sz, n, xs⟩) {i0 : TypeInfo} {z : Value} {bytes : Nat} (ht : P.underlying t = some (.slice E)) (hI : P.info? E = some i0) (hz : i0.zero = some z)
    (hsize : i0.size = sz) (hby : i0.bytes = bytes) (hzs : z.cells.size = sz) (hp : 0 < sz) (q : Nat) {b c m E' : Nat} {ps : List Value} (hq : G[q]? = some ⟨.slice (some ⟨b, 0, none⟩) m c, E', sz, m, ps⟩) (hul : ps.length = m * sz) (hm0 : 0 < m) (hs : a.eval s = v) (hx : a.eval x = .slice (some ⟨b, 0, none⟩) m c) (hu : ∀ u ∈ ps, u.oneCell' = true)
    (hlen : n + m ≤ 1000000) (hbytes : bytes ≤ 1000)
    (hk : ∀ g cap w', Mg B w0 w' L (G.set i ⟨.slice (some ⟨g, 0, none⟩) (n + m) cap, E, sz, n + m, xs ++ ps⟩) → Old w w' v n sz → w.heap.size ≤ w'.heap.size → K (a.put o.dst (.slice (some ⟨g, 0, none⟩) (n + m) cap)) w') :
    if Region.wanted o (yielded ops a.tmps) = true then Oper.wp P o a w K Q else K (a.put o.dst undef) w := by
  rw [if_pos hwd]
  have hown := h.row i hi
  obtain ⟨g, cap, w', hr, a1, a2, a4⟩ := run_keeps (P := P) w t o.type B E i0 z sz bytes ht hI hz hsize hby hzs hp v n xs hown ⟨b, 0, none⟩ m c ps hul (fun j y hj => by
      rw [addr_add]
      exact h.cellAt hq hj) hu hm0 (by simp [maxLen]; omega) (by
      calc (n + m) * bytes ≤ 1000001 * 1000 := Nat.mul_le_mul (by omega) hbytes
        _ ≤ _ := by omega) h.size
  have hM := h.grow2 i hi a1 a2 (by
    rcases a4 with e | ⟨e, -⟩
    · exact .inl e.symm
    · exact .inr (by rw [e]; rfl))
  have hOld : Old w w' v n sz := fun k j u hc hlt => by
    have hkw : k < w.heap.size := World.block_lt_of_cell? w _ hc
    by_cases hv : v.ownBlock = some k
    · rcases a4 with e | ⟨e, h3⟩
      · rw [hv] at e; injection e with e; subst e
        have hj := hlt hv
        have hxl := hown.1
        simp only at hxl
        have hxj : xs[j]? = some u := by
          have hj2 : j < xs.length := by rw [hxl]; exact hj
          have h5 := World.ownsRow.cells hown hv j xs[j] (List.getElem?_eq_getElem hj2)
          rw [addr_add, hc] at h5
          rw [List.getElem?_eq_getElem hj2, h5]
        have h6 := World.ownsRow.cells a1 (g := k) rfl j u (by rw [List.getElem?_append_left (List.getElem?_eq_some_iff.1 hxj).1]; exact hxj)
        rwa [addr_add] at h6
      · exact (World.cell?_of_block (w := w) (a := ⟨k, j, none⟩) (h3 k hkw)).trans hc
    · exact (World.cell?_of_block (w := w) (a := ⟨k, j, none⟩) (a2.block k hkw (Ne.symm hv))).trans hc
  unfold Oper.wp execOp
  simp only [ho, resolve, invoke, builtin, Sem.run_bind, Sem.run_pure, Result.andThen_ok, List.map_toArray, List.map_cons, List.map_nil, hs, hx, hr]
  exact (hk g cap w' hM hOld a2.size)
theorem Mg.appendP {P : Program} {ops : Array Oper} {rest : List Oper} {o : Oper} {a : Act} {Q : Exit → Act → World → Prop} (hgd : o.guard = none) (hwd : Region.wanted o (yielded ops a.tmps) = true) (s x : Operand) (t : TypeId)
    (ho : o.op = .call { callee := .builtin .append, args := #[s, x], argTypes := #[t, t] })
    (h : Mg B w0 w L G) (i : Nat) {v : Value} {E sz n : Nat} {xs : List Value} (hi : G[i]? = some ⟨v, E, sz, n, xs⟩) {i0 : TypeInfo} {z : Value} {bytes : Nat} (ht : P.underlying t = some (.slice E)) (hI : P.info? E = some i0) (hz : i0.zero = some z)
    (hsize : i0.size = sz) (hby : i0.bytes = bytes) (hzs : z.cells.size = sz) (hp : 0 < sz) (q : Nat) {b : Nat} {ps : List Value} {T : TypeId} (hq : L[q]? = some (b, ps, T)) (hul : ps.length = sz) (hs : a.eval s = v) (hx : a.eval x = .slice (some ⟨b, 0, none⟩) 1 1) (hu : ∀ u ∈ ps, u.oneCell' = true)
    (hlen : n ≤ 1000000) (hbytes : bytes ≤ 1000)
    (hk : ∀ g cap w', Mg B w0 w' L (G.set i ⟨.slice (some ⟨g, 0, none⟩) (n + 1) cap, E, sz, n + 1, xs ++ ps⟩) → Old w w' v n sz → (v.ownBlock = some g ∨ w.heap.size ≤ g) → w.heap.size ≤ w'.heap.size → wpList P ops Q rest (a.put o.dst (.slice (some ⟨g, 0, none⟩) (n + 1) cap)) w') :
    wpList P ops Q (o :: rest) a w := by
  refine wpList_plain hgd fun K hK => ?_
  have h2 := Mg.appendQ (K := K) (Q := Q) hwd s x t ho h i hi ht hI hz hsize hby hzs hp q hq hul hs hx hu hlen hbytes (fun g cap w' h1 h2 h3 h4 => hK _ _ (hk g cap w' h1 h2 h3 h4))
  rwa [if_pos hwd] at h2
end
theorem info_int : ∃ i0 z, Try.prog.info? 3 = some i0 ∧ i0.zero = some z ∧ i0.size = 1 ∧ z.cells.size = 1 ∧ i0.bytes ≤ 1000 := by
  have h : ((Try.prog.info? 3).elim false fun i => i.size == 1 && decide (i.bytes ≤ 1000) && i.zero.elim false fun z => z.cells.size == 1) = true := by kernel_rfl
  cases hi : Try.prog.info? 3 with
  | none => rw [hi] at h; cases h
  | some i =>
    rw [hi] at h
    cases hz : i.zero with
    | none => simp [hz] at h
    | some z =>
      simp [hz] at h
      exact ⟨i, z, rfl, hz, h.1.1, h.2, h.1.2⟩
theorem i64s_ones (xs : List Int) : ∀ u ∈ i64s xs, u.oneCell' = true := fun u hu => by
  simp only [i64s, List.mem_map] at hu
  obtain ⟨x, -, rfl⟩ := hu
  rfl
theorem ballS_row {s : Bs} {vw vm vs : Value} {rw : List Value} {cs : List Nat} {GR : List Gr} (hl : rw.length = s.length) {i : Nat} (hi : i < s.length) :
    (ballS s vw rw vm vs cs ++ GR)[i + 3]? = some ⟨rw[i]?.getD undef, 2, 1, ((s[i]?.map (·.1)).getD []).length, i64s ((s[i]?.map (·.1)).getD [])⟩ := by
  have h := rowG_get (rv := rw) (rows := s.map (·.1)) (by rw [hl, List.length_map]) (i := i) (by rw [List.length_map]; exact hi)
  have h2 : i < ((rowG rw (s.map (·.1))).map Gr.of).length := by simp [rowG, hl, hi]
  simp only [ballS, List.cons_append, List.getElem?_cons_succ]
  rw [List.getElem?_append_left h2, List.getElem?_map, h, List.getElem?_map]
  simp [Gr.of, i64s]
theorem Mg.wordAtS {B : Nat} {w0 w : World} {L : List (Nat × List Value × TypeId)} {s : Bs} {vw vm vs : Value} {rw : List Value} {cs : List Nat} {GR : List Gr} (h : Mg B w0 w L (ballS s vw rw vm vs cs ++ GR)) (hl : rw.length = s.length) {i : Nat} (hi : i < s.length) :
    OwnI w B (rw[i]?.getD undef) ((s[i]?.map (·.1)).getD []) := h.row (i + 3) (ballS_row hl hi)
theorem Mg.hdrS {B : Nat} {w0 w : World} {b gw cw : Nat} {cl : List Value} {T : TypeId} {L : List (Nat × List Value × TypeId)} {s : Bs} {vm vs : Value} {rw : List Value} {cs : List Nat} {GR : List Gr} (h : Mg B w0 w ((b, cl, T) :: L) (ballS s (.slice (some ⟨gw, 0, none⟩) s.length cw) rw vm vs cs ++ GR)) (hl : rw.length = s.length) :
    Hdr w b (.slice (some ⟨gw, 0, none⟩) s.length cw) vm s.length gw rw := by
  refine ⟨fun j v hj => h.cellAt (i := 0) rfl hj, fun _ => Nat.le_of_eq hl, fun e => ?_, fun e => ?_, ?_⟩
  · have hd := h.gdist
    rw [ballS, List.cons_append, List.pairwise_cons] at hd
    exact hd.1 ⟨vm, 29, 98, s.length, cellsM (s.map (·.2))⟩ (by simp) gw rfl e
  · exact h.sep ⟨.slice (some ⟨gw, 0, none⟩) s.length cw, 26, 1, s.length, rw⟩ (by simp [ballS]) (b, cl, T) (by simp) (by simp only [Value.ownBlock, e])
  · exact h.ownlt (x := ⟨.slice (some ⟨gw, 0, none⟩) s.length cw, 26, 1, s.length, rw⟩) (by simp [ballS]) rfl
end Go.Proofs.Yteagecoiijhflaa
