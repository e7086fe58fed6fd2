import Derived.Test.YteagecoiijhflaaZLRelationsOf02
import Derived.Test.YteagecoiijhflaaZLOrderOf02
/- The relations that go on with a word: the program's search, all words; RelationsOf of the program. -/
namespace Go.Proofs.Yteagecoiijhflaa
open Go.RowKit
set_option linter.unusedVariables false
set_option linter.unusedSimpArgs false

theorem pfx_pre (gs : List Int) (w : Wd) (n i : Nat) : ∃ r, pfx gs w n gs.length = pfx gs w n i ++ r := by
  refine ⟨(((gs.drop i).filter (mayE gs w)).map fun k => w ++ [k]).flatMap (extD gs n), ?_⟩
  rw [pfx, pfx, ← List.flatMap_append, ← List.map_append, ← List.filter_append, List.take_append_drop, List.take_length]
theorem node_perm {B : Nat} {w0 w : World} {o v r : Value} {rv xs ys : List Value} {rows : List Wd} {x : Wd} {k : Int} {GL : List (Value × TypeId × List Value)}
    (h : Mm B w0 w [] ((v, 2, i64s x ++ [Value.int .i64 k]) :: (o, 26, xs) :: (r, 2, ys) :: (rowG rv rows ++ GL))) :
    Mm B w0 w [] ((o, 26, xs) :: (v, 2, i64s (x ++ [k])) :: (rowG rv rows ++ ((r, 2, ys) :: GL))) := by
  have e : i64s (x ++ [k]) = i64s x ++ [Value.int .i64 k] := by simp [i64s]
  rw [e]
  refine (h.permG (List.Perm.swap _ _ _)).permG (List.Perm.cons _ (List.Perm.cons _ ?_))
  exact List.perm_middle.symm
theorem mayE_nil {gs : List Int} {w : Wd} {k : Int} (h : w.length = 0) : mayE gs w k = true := by rw [mayE, decide_eq_true h]; rfl
theorem mayE_pos {gs : List Int} {w : Wd} {k : Int} (h : ¬ w.length = 0) : mayE gs w k = okP gs (lastW w) k := by rw [mayE, decide_eq_false h]; rfl
set_option maxRecDepth 100000 in
set_option maxHeartbeats 4000000 in
theorem relations_step (m : Mch) (hwf : m.Wf) (hok : m.Ok) (G : Nat) (ga : Option Addr) (gc : Nat) (gs : List Int) (hgs : GW m gs) (h8 : gs.length ≤ 8) (w0 : World) (hG : GrpR w0 G m) (hI : IntsAt w0 ga gs) (n : Nat) (hn : n ≤ 3)
    (hrec : ∀ (w : Wd), w.length + n ≤ 4 → GW m w → ∀ (W : World) (outv wv : Value) (rv : List Value) (rows : List Wd) (GL : List (Value × TypeId × List Value)), rv.length = rows.length → rows.length + 8 ^ n ≤ 100000 →
      Mm w0.heap.size w0 W [] ((outv, 26, rv) :: (wv, 2, i64s w) :: (rowG rv rows ++ GL)) →
      Calls Try.prog 74 #[.pointer (some ⟨G, 0, none⟩), outv, .slice ga gs.length gc, wv, .int .i64 (n : Int)] W (RetD w0 GL n (relS m gs (extD gs n w) (.ok rows))))
    (w : Wd) (hw : w.length + (n + 1) ≤ 4) (hGW : GW m w) (W : World) (q : Int) (hq : q = ((n + 1 : Nat) : Int)) (outv wv : Value) (rv : List Value) (rows : List Wd) (GL : List (Value × TypeId × List Value)) (hl : rv.length = rows.length) (hr : rows.length + 8 ^ (n + 1) ≤ 100000)
    (hM : Mm w0.heap.size w0 W [] ((outv, 26, rv) :: (wv, 2, i64s w) :: (rowG rv rows ++ GL))) :
    Calls Try.prog 74 #[.pointer (some ⟨G, 0, none⟩), outv, .slice ga gs.length gc, wv, .int .i64 q] W (RetD w0 GL (n + 1) (relS m gs (extD gs (n + 1) w) (.ok rows))) := by
  have hs16 := hok.s_le
  obtain ⟨i0, hi0, hz0, hz1, hz2⟩ := info_parts Try.info2
  obtain ⟨aw, cw, rfl, hIw0⟩ := (OwnI.of_row (hM.own _ (List.mem_cons_of_mem _ (List.mem_cons_self ..)))).form
  have HREC := Lib.hid hrec
  have HI := Lib.hid hI
  have HGR := Lib.hid hG
  have HGS := Lib.hid hgs
  have HGW := Lib.hid hGW
  have HR := Lib.hid hr
  have HALL := Lib.hid (pfx_all gs w n)
  have jn : (q == 0) = false := by simp; omega
  have en : IntKind.i64.wrap (q - 1) = (n : Int) := by rw [IntWalk.i64_in _ (by omega)]; omega
  have HM0 := Lib.hid hM
  have HL0 := Lib.hid hl
  clear hrec hI hG hgs hGW hM hl hr hIw0 hq
  go_enter Try.func74, Try.ntmps74
  go_wp2_with fail
  go_loopw [1, 54] (fun o iv wr => ∃ (i : Nat) (rv2 : List Value) (rows2 : List Wd), i ≤ gs.length ∧ iv = .int .i64 (i : Int) ∧ Hid (relS m gs (pfx gs w n i) (.ok rows) = .ok rows2) ∧ Hid (rv2.length = rows2.length) ∧
    Mm w0.heap.size w0 wr [] ((o, 26, rv2) :: (.slice aw w.length cw, 2, i64s w) :: (rowG rv2 rows2 ++ GL))) (fun _ iv _ => gs.length - (intOf iv).toNat)
  case atStart => exact ⟨0, rv, rows, Nat.zero_le _, rfl, rfl, HL0.out, HM0.out⟩
  case round =>
    clear HM0 HL0
    obtain ⟨i, rv2, rows2, hi, rfl, HS, HL, hM⟩ := hrel
    have ei : IntKind.i64.wrap ((i : Int) + 1) = (i : Int) + 1 := IntWalk.i64_in _ (by omega)
    by_cases hlt : i < gs.length
    · obtain ⟨b, off, rfl, c1⟩ := HI.out i hlt
      have c1 := (hM.below.cell (World.block_lt_of_cell? _ _ c1)).trans c1
      have i1 : (0 : Int) ≤ (i : Int) := by omega
      have i2 : (i : Int) < (gs.length : Int) := by omega
      have hkm : gs[i]?.getD 0 ∈ gs := by rw [List.getElem?_eq_getElem hlt, Option.getD_some]; exact List.getElem_mem hlt
      have HKM : Hid (gs[i]?.getD 0 ≠ 0 ∧ -(m.s : Int) ≤ gs[i]?.getD 0 ∧ gs[i]?.getD 0 ≤ m.s) := HGS.out _ hkm
      have HY := Lib.hid (pfx_yes (w := w) (n := n) hlt)
      have HN := Lib.hid (pfx_no (w := w) (n := n) hlt)
      have HBD : Hid (rows2.length + 8 ^ n ≤ 100000) := by
        have h1 := relS_len HS.out
        have h2 := pfx_len gs h8 w n i hi
        have h3 : 8 ^ n * i ≤ 8 ^ n * 7 := Nat.mul_le_mul_left _ (by omega)
        have h4 := HR.out
        rw [Nat.pow_succ] at h4
        show _ ≤ _
        omega
      have HPRE := Lib.hid (pfx_pre gs w n (i + 1))
      generalize gs[i]?.getD 0 = k at *
      have HGK : Hid (GW m (w ++ [k])) := gw_app HGW.out fun p hp => by rw [List.mem_singleton.1 hp]; exact HKM.out
      clear hkm
      by_cases h0 : w.length = 0
      case' pos =>
        have HYS := Lib.hid (HY.out (mayE_nil h0))
        have j1 : ¬ ((0 : Int) < (w.length : Int)) := by omega
        have j1' : decide ((0 : Int) < (w.length : Int)) = false := decide_eq_false j1
        have HCL := Lib.hid (clone_any _ w (by omega) _ _ (OwnI.of_row (hM.own _ (List.mem_cons_of_mem _ (List.mem_cons_self ..)))))
        have hM1 := hM
        clear hM HY HN h0
        go_wp2_with fail
      case' neg =>
        have HMF := Lib.hid (mayFollow_any (some ⟨b, off, none⟩) gc gs (lastW w) k (by omega) (getD_range hs16 HGW.out _) (by have := HKM.out; omega) wr (HI.out.keep hM.below))
        have hIw := hM.intsAt 1 rfl
        obtain ⟨bw, ow, rfl, c2⟩ := hIw (w.length - 1) (by omega)
        change wr.cell? ⟨bw, ow + (w.length - 1), none⟩ = some (.int .i64 (lastW w)) at c2
        have hmE := mayE_pos (gs := gs) (k := k) h0
        have HCL : Hid (∀ d, Calls Try.prog 111 #[.slice (some ⟨bw, ow, none⟩) w.length cw] (wr.drewN d) _) := fun d => clone_any _ w (by omega) _ _ (OwnI.of_row ((hM.drewN d).own _ (List.mem_cons_of_mem _ (List.mem_cons_self ..))))
        rw [hmE] at HY HN
        have j1 : (0 : Int) < (w.length : Int) := by omega
        have j1' : decide ((0 : Int) < (w.length : Int)) = true := decide_eq_true j1
        have e1 : IntKind.i64.wrap ((w.length : Int) - 1) = ((w.length - 1 : Nat) : Int) := by rw [IntWalk.i64_in _ (by omega)]; omega
        have k0 : (0 : Int) ≤ ((w.length - 1 : Nat) : Int) := by omega
        have k2 : ((w.length - 1 : Nat) : Int) < (w.length : Int) := by omega
        generalize lastW w = lw at *
        generalize okP gs lw k = okv at *
        clear hIw hmE h0
        cases okv
        case' false =>
          have HNS := Lib.hid (HN.out rfl)
          have HMd : Hid (∀ d, Mm w0.heap.size w0 (wr.drewN d) [] ((u1, 26, rv2) :: (.slice (some ⟨bw, ow, none⟩) w.length cw, 2, i64s w) :: (rowG rv2 rows2 ++ GL))) := fun d => hM.drewN d
          clear HY HN hM HCL
          go_wp2_with (go_at_call 113; refine HMF.out.mono ?_; rintro e w3 ⟨rfl, d, rfl⟩)
          go_roundw
          case rel => exact ⟨i + 1, rv2, rows2, by omega, by go_num, by rw [HNS.out]; exact HS.out, HL.out, HMd.out _⟩
          case measure => simp [intOf] <;> omega
        have HYS := Lib.hid (HY.out rfl)
        clear HY HN
        go_wp2_with (go_at_call 113; refine HMF.out.mono ?_; rintro e w3 ⟨rfl, d, rfl⟩)
        have hM1 := hM.drewN d
        have HCL := Lib.hid (HCL.out d)
        clear hM
      all_goals
        refine HCL.out.mono ?_
        rintro e w5 ⟨v5, rfl, hb5, hO5⟩
        have hM5 := hM1.callOwn hb5 hO5 (by simp [i64s])
        have hwl : (i64s w).length ≤ 1000000 := by simp only [i64s, List.length_map]; omega
        clear HCL hM1 hb5 hO5 c1
        go_wp2_with (at_builtin; refine Mm.append rfl (.tmp 78) (.tmp 80) 26 rfl hM5 0 rfl Try.underlying26 hi0 hz0 hz1 hz2 rfl rfl rfl rfl hwl (by omega) ?_)
        intro g6 c6 w6 hM6
        have hM7 := node_perm hM6
        have HC := Lib.hid (HREC.out (w ++ [k]) (by simp; omega) HGK.out w6 u1 _ rv2 rows2 _ HL.out HBD.out hM7)
        clear hM5 hM6 hM7
        go_wp2_with fail
        refine HC.out.mono ?_
        intro e w7 hR7
        cases hs : relS m gs (extD gs n (w ++ [k])) (.ok rows2) with
        | ok rows3 =>
          rw [hs] at hR7
          obtain ⟨v7, rv7, rfl, hl7, hM8⟩ := hR7
          have HS2 : Hid (relS m gs (pfx gs w n (i + 1)) (.ok rows) = .ok rows3) := by show _ = _; rw [HYS.out, relS_app, HS.out]; exact hs
          have HL7 := Lib.hid hl7
          have HM8 := Lib.hid (hM8.permG (List.Perm.cons _ List.perm_middle))
          clear HC hs hl7 hM8
          go_wp2_with fail
          go_roundw
          case rel => exact ⟨i + 1, rv7, rows3, by omega, by go_num, HS2.out, HL7.out, HM8.out⟩
          case measure => simp [intOf] <;> omega
        | error c =>
          rw [hs] at hR7
          obtain ⟨v7, rfl, hc, -, hM8⟩ := hR7
          have HS2 : Hid (relS m gs (extD gs (n + 1) w) (.ok rows) = .error c) := by
            show _ = _
            obtain ⟨r, hr⟩ := HPRE.out
            rw [← HALL.out, hr, HYS.out, relS_app, relS_app, HS.out, hs, relS_err]
          have j3 : (c != 0) = true := by simpa using hc
          have HM8 : Hid (Mm w0.heap.size w0 w7 [] GL) := hM8.subG (List.sublist_cons_self _ _)
          have HCN := Lib.hid hc
          clear HC hs hM8 hc
          go_wp2_with fail
          go_ret2
          rw [HS2.out]
          exact ⟨_, rfl, HCN.out, fun _ => rfl, HM8.out⟩
    · have hi' : i = gs.length := by omega
      subst hi'
      have HR2 : Hid (relS m gs (extD gs (n + 1) w) (.ok rows) = .ok rows2) := by show _ = _; rw [← HALL.out]; exact HS.out
      have HM2 : Hid (Mm w0.heap.size w0 wr [] ((u1, 26, rv2) :: (rowG rv2 rows2 ++ GL))) := hM.subG ((List.sublist_cons_self _ _).cons_cons _)
      have j2 : ¬ ((gs.length : Int) < (gs.length : Int)) := by omega
      clear hM
      go_wp2_with fail
      go_ret2
      rw [HR2.out]
      exact ⟨_, rv2, rfl, HL.out, HM2.out⟩

theorem relations_any (m : Mch) (hwf : m.Wf) (hok : m.Ok) (G : Nat) (ga : Option Addr) (gc : Nat) (gs : List Int) (hgs : GW m gs) (h8 : gs.length ≤ 8) (w0 : World) (hG : GrpR w0 G m) (hI : IntsAt w0 ga gs) : ∀ (n : Nat), n ≤ 4 →
    ∀ (w : Wd), w.length + n ≤ 4 → GW m w → ∀ (W : World) (outv wv : Value) (rv : List Value) (rows : List Wd) (GL : List (Value × TypeId × List Value)), rv.length = rows.length → rows.length + 8 ^ n ≤ 100000 →
      Mm w0.heap.size w0 W [] ((outv, 26, rv) :: (wv, 2, i64s w) :: (rowG rv rows ++ GL)) →
      Calls Try.prog 74 #[.pointer (some ⟨G, 0, none⟩), outv, .slice ga gs.length gc, wv, .int .i64 (n : Int)] W (RetD w0 GL n (relS m gs (extD gs n w) (.ok rows)))
  | 0, _, w, hw, hGW, W, outv, wv, rv, rows, GL, hl, hr, hM => relations_zero m hwf hok G ga gc gs hgs h8 w0 hG hI w (by omega) hGW W outv wv rv rows GL hl (by omega) hM
  | n + 1, hn, w, hw, hGW, W, outv, wv, rv, rows, GL, hl, hr, hM =>
    relations_step m hwf hok G ga gc gs hgs h8 w0 hG hI n (by omega) (relations_any m hwf hok G ga gc gs hgs h8 w0 hG hI n (by omega)) w hw hGW W _ rfl outv wv rv rows GL hl hr hM

theorem relI_off {m : Mch} {l : Int} (h : machP m = false) : relI m l = ([], 1) := by rw [relI, h]
theorem relI_range {m : Mch} {l : Int} (h : machP m = true) (h2 : inR l 1 4 = false) : relI m l = ([], 2) := by rw [relI, h, h2]
theorem relI_code {m : Mch} {l : Int} (h : machP m = true) (h2 : inR l 1 4 = true) (h3 : (genI m).2 ≠ 0) : relI m l = ([], (genI m).2) := by rw [relI, h, h2]; simp only; rw [if_pos h3]
theorem relI_many {m : Mch} {l : Int} (h : machP m = true) (h2 : inR l 1 4 = true) (h3 : (genI m).2 = 0) (h4 : 8 < (genI m).1.length) : relI m l = ([], 2) := by rw [relI, h, h2]; simp only; rw [if_neg (by simp [h3]), if_pos h4]
theorem relI_ok {m : Mch} {l : Int} (h : machP m = true) (h2 : inR l 1 4 = true) (h3 : (genI m).2 = 0) (h4 : ¬ 8 < (genI m).1.length) : relI m l = match relS m (genI m).1 (levX (genI m).1 l.toNat) (.ok []) with
      | .error c => ([], c)
      | .ok out => (out, 0) := by rw [relI, h, h2]; simp only; rw [if_neg (by simp [h3]), if_neg h4]; cases relS m (genI m).1 (levX (genI m).1 l.toNat) (.ok []) <;> rfl

set_option maxRecDepth 100000 in
set_option maxHeartbeats 4000000 in
theorem implRelationsOf_any (m : Mch) (hwf : m.Wf) (l : Int) (w : World) :
    Calls Try.prog 37 #[.agg m.cells.toArray, .int .i64 l] w (RetII (relI m l).1 (relI m l).2 w) := by
  have hM0 := (Mm.start w).alloc m.cells.toArray 29
  have hm := hM0.mach 0 rfl
  have HIS := Lib.hid (IsMachine_any m hwf (w.alloc (.cells m.cells.toArray 29)))
  have HM0 := Lib.hid hM0
  clear hM0
  go_enter Try.func37, Try.ntmps37
  go_wp2_with ((with_reducible refine ld_mach ?_ (.tmp 2) ?_ (w.heap.size) (0) ?_ m hm hwf ?_); exact rfl; exact rfl; exact rfl)
  refine HIS.out.mono ?_
  rintro e w1 ⟨rfl, hb1⟩
  have hM1 := HM0.out.call hb1
  clear HM0 HIS hm hb1
  cases hp : machP m with
  | false =>
    have HD : Hid (relI m l = ([], 1)) := relI_off hp
    have hb := hM1.below
    have HN : Hid (OwnII w1 w.heap.size (.slice none 0 0) []) := OwnII.nil _ _ hM1.size
    clear hM1 hp
    go_wp2_with fail
    go_ret2
    rw [HD.out]
    exact ⟨_, rfl, hb, HN.out⟩
  | true =>
    have HRW := Lib.hid (within_any l 1 4)
    cases hr : inR l 1 4 with
    | false =>
      have HD : Hid (relI m l = ([], 2)) := relI_range hp hr
      have hb := hM1.below
      have HN : Hid (OwnII w1 w.heap.size (.slice none 0 0) []) := OwnII.nil _ _ hM1.size
      rw [hr] at HRW
      clear hM1 hp hr
      go_wp2_with (go_at_call 59; refine (HRW.out _).mono ?_; rintro e w' ⟨rfl, rfl⟩)
      go_ret2
      rw [HD.out]
      exact ⟨_, rfl, hb, HN.out⟩
    | true =>
      obtain ⟨n, rfl⟩ : ∃ n : Nat, l = (n : Int) := ⟨l.toNat, by simp only [inR, Bool.and_eq_true, decide_eq_true_eq] at hr; omega⟩
      have hn : 1 ≤ n ∧ n ≤ 4 := by simp only [inR, Bool.and_eq_true, decide_eq_true_eq] at hr; omega
      have hok := mach_ok hp
      have hs16 := hok.s_le
      have HC := Lib.hid (relI_code hp hr)
      have HMY := Lib.hid (relI_many hp hr)
      have HOK := Lib.hid (relI_ok hp hr)
      have HNG := Lib.hid (newGroup_any m hwf hok w1)
      have HGA : Hid (∀ G w, GrpR w G m → _) := fun G w hG => generatorsOf_any G m hwf hok w hG
      have HGW := Lib.hid (genI_gw m)
      have HRA : Hid (∀ G ga gc gs w0, GW m gs → gs.length ≤ 8 → GrpR w0 G m → IntsAt w0 ga gs → _) := fun G ga gc gs w0 h1 h2 h3 h4 => relations_any m hwf hok G ga gc gs h1 h2 w0 h3 h4 n hn.2 [] (by simpa using hn.2) (fun q hq => by cases hq)
      have hm1 := hM1.mach 0 rfl
      have HM1 := Lib.hid hM1
      have hgl := genI_len m hs16
      rw [hr] at HRW
      clear hp hok hM1 hr
      go_wp2_with (first | (go_at_call 59; refine (HRW.out _).mono ?_; rintro e w' ⟨rfl, rfl⟩) | ((with_reducible refine ld_mach ?_ (.tmp 2) ?_ (w.heap.size) (0) ?_ m hm1 hwf ?_); exact rfl; exact rfl; exact rfl))
      refine HNG.out.mono ?_
      rintro e w2 ⟨G, rfl, hb2, hG⟩
      have HM2 := Lib.hid (HM1.out.call hb2)
      have HGC := Lib.hid (HGA.out G w2 hG)
      have HG2 := Lib.hid hG
      clear HNG hG HM1 hm1 hb2 HGA
      go_wp2_with fail
      refine HGC.out.mono ?_
      rintro e w3 ⟨v, rfl, hb3, hO3⟩
      obtain ⟨a, c, rfl, hI⟩ := id hO3.form
      have HI := Lib.hid hI
      have HG3 := Lib.hid (HG2.out.keep hb3)
      have HM3 := Lib.hid (HM2.out.call hb3)
      have hbb := HM3.out.below
      have HN : Hid (OwnII w3 w.heap.size (.slice none 0 0) []) := OwnII.nil _ _ HM3.out.size
      clear HGC hO3 hb3 HM2 hI HG2
      generalize genI m = GI at *
      obtain ⟨gs, gc⟩ := GI
      by_cases hc : gc = 0
      · subst hc
        by_cases h8 : 8 < gs.length
        · have HD := Lib.hid (HMY.out rfl h8)
          have j1 : (8 : Int) < (gs.length : Int) := by omega
          clear HC HMY HOK HRA
          go_wp2_with fail
          go_ret2
          rw [HD.out]
          exact ⟨_, rfl, hbb, HN.out⟩
        · have HD := Lib.hid (HOK.out rfl h8)
          have j1 : ¬ (8 : Int) < (gs.length : Int) := by omega
          have HM4 : Hid (Mm w3.heap.size w3 w3 [] [(.slice none 0 0, 26, []), (.slice none 0 0, 2, [])]) := ((Mm.start w3).addNil 2).addNil 26
          have h84 : 8 ^ n ≤ 8 ^ 4 := Nat.pow_le_pow_right (by omega) hn.2
          have HRC := Lib.hid (HRA.out G a c gs w3 HGW.out (by omega) HG3.out HI.out w3 (.slice none 0 0) (.slice none 0 0) [] [] [] rfl (by simp; omega) HM4.out)
          clear HC HMY HOK HRA
          go_wp2_with fail
          refine HRC.out.mono ?_
          intro e w4 hR
          rw [ext_lev] at hR
          have HD' : Hid (relI m (n : Int) = match relS m gs (levX gs n) (.ok []) with
            | .error c => ([], c)
            | .ok out => (out, 0)) := HD.out
          cases hs : relS m gs (levX gs n) (.ok []) with
          | error cc =>
            rw [hs] at hR HD'
            obtain ⟨vv, rfl, h1, h2, hM5⟩ := hR
            have := h2 (by omega)
            subst this
            have HD2 := Lib.hid HD'.out
            have hb5 := hbb.trans (hM5.below.mono HM3.out.size)
            have HN5 : Hid (OwnII w4 w.heap.size (.slice none 0 0) []) := OwnII.nil _ _ (Nat.le_trans HM3.out.size hM5.size)
            clear HRC hs hM5 HD HD' h1 h2
            go_wp2_with fail
            go_ret2
            rw [HD2.out]
            exact ⟨_, rfl, hb5, HN5.out⟩
          | ok rows =>
            rw [hs] at hR HD'
            obtain ⟨vv, rv, rfl, hl, hM5⟩ := hR
            have HD2 := Lib.hid HD'.out
            have hb5 := hbb.trans (hM5.below.mono HM3.out.size)
            rw [List.append_nil] at hM5
            have HO5 := Lib.hid ((OwnII.of hM5 hl).less HM3.out.size)
            clear HRC hs hM5 HD HD' hl
            go_wp2_with fail
            go_ret2
            rw [HD2.out]
            exact ⟨_, rfl, hb5, HO5.out⟩
      · have HD := Lib.hid (HC.out hc)
        have j2 : (gc != 0) = true := by simpa using hc
        clear HC HMY HOK HRA hc
        go_wp2_with fail
        go_ret2
        rw [HD.out]
        exact ⟨_, rfl, hbb, HN.out⟩
end Go.Proofs.Yteagecoiijhflaa

/- The words of the reference's relations, plain. -/
namespace Go.Proofs.Yteagecoiijhflaa
open Go.RowKit
set_option linter.unusedVariables false
set_option linter.unusedSimpArgs false

theorem ownII_void (w : World) : OwnII ((w.alloc (.cells #[] 2)).alloc (.cells #[.slice (some ⟨w.heap.size, 0, none⟩) 0 0] 26)) w.heap.size (.slice (some ⟨w.heap.size + 1, 0, none⟩) 1 1) [[]] := by
  have hM0 := ((Mm.start w).newOwn #[] 2 0 rfl (by omega)).newOwn #[.slice (some ⟨w.heap.size, 0, none⟩) 0 0] 26 1 rfl (by omega)
  rw [World.size_alloc] at hM0
  exact OwnII.of (rv := [.slice (some ⟨w.heap.size, 0, none⟩) 0 0]) hM0 rfl
theorem OwnII.elem {w : World} {B : Nat} {v : Value} {Q : List Wd} (h : OwnII w B v Q) {i : Nat} (hi : i < Q.length) : ∃ g c r, v = .slice (some ⟨g, 0, none⟩) Q.length c ∧ w.cell? ⟨g, i, none⟩ = some r ∧ OwnI w B r (Q[i]?.getD []) := by
  obtain ⟨rv, hl, hM⟩ := h
  have ho := hM.own _ (List.mem_cons_self ..)
  simp only at ho
  obtain ⟨g, c, e, -, -, hc⟩ := own_form ho (by omega)
  have hr := OwnII.row hl hM hi
  rw [List.getElem?_eq_getElem (by omega : i < rv.length)] at hr
  exact ⟨g, c, rv[i], by rw [e, hl], hc i _ (List.getElem?_eq_getElem (by omega)), hr⟩

def stepP (gs : List Int) (w : Wd) (s : Nat) : List Wd := ((gs.take s).filter (mayE gs w)).map fun k => w ++ [k]
theorem stepP_zero (gs : List Int) (w : Wd) : stepP gs w 0 = [] := rfl
theorem stepP_all (gs : List Int) (w : Wd) : stepP gs w gs.length = stepX gs w := by rw [stepP, List.take_length]; rfl
theorem stepP_yes {gs : List Int} {w : Wd} {i : Nat} (h : i < gs.length) (hm : mayE gs w (gs[i]?.getD 0) = true) : stepP gs w (i + 1) = stepP gs w i ++ [w ++ [gs[i]?.getD 0]] := by
  rw [List.getElem?_eq_getElem h, Option.getD_some] at hm ⊢
  simp only [stepP, List.take_succ_eq_append_getElem h, List.filter_append, List.map_append, List.filter_cons, hm, if_true, List.filter_nil, List.map_cons, List.map_nil]
theorem stepP_no {gs : List Int} {w : Wd} {i : Nat} (h : i < gs.length) (hm : mayE gs w (gs[i]?.getD 0) = false) : stepP gs w (i + 1) = stepP gs w i := by
  rw [List.getElem?_eq_getElem h, Option.getD_some] at hm
  simp only [stepP, List.take_succ_eq_append_getElem h, List.filter_append, List.map_append, List.filter_cons, hm, if_false, Bool.false_eq_true, List.filter_nil, List.map_nil, List.append_nil]
theorem stepP_len (gs : List Int) (w : Wd) (s : Nat) : (stepP gs w s).length ≤ gs.length := by
  rw [stepP, List.length_map]
  refine Nat.le_trans (List.length_filter_le _ _) ?_
  simp; omega
def nxtX (gs : List Int) (Q : List Wd) (i : Nat) : List Wd := (Q.take i).flatMap (stepX gs)
theorem nxtX_zero (gs : List Int) (Q : List Wd) : nxtX gs Q 0 = [] := rfl
theorem nxtX_succ (gs : List Int) (Q : List Wd) {i : Nat} (h : i < Q.length) : nxtX gs Q (i + 1) = nxtX gs Q i ++ stepX gs (Q[i]?.getD []) := by
  rw [nxtX, List.take_succ_eq_append_getElem h, List.flatMap_append, List.getElem?_eq_getElem h, Option.getD_some]
  simp [nxtX]
theorem nxtX_len (gs : List Int) (h8 : gs.length ≤ 8) (Q : List Wd) (i : Nat) (hi : i ≤ Q.length) : (nxtX gs Q i).length ≤ 8 * i := by
  have h := flat_bound (stepX gs) 8 (Q.take i) fun w _ => Nat.le_trans (stepX_len gs w) h8
  rw [List.length_take, Nat.min_eq_left hi] at h
  exact h
theorem levX_succ (gs : List Int) (k : Nat) : levX gs (k + 1) = nxtX gs (levX gs k) (levX gs k).length := by
  rw [nxtX, List.take_length]; rfl
theorem levX_small (gs : List Int) (h8 : gs.length ≤ 8) {k : Nat} (hk : k ≤ 4) : (levX gs k).length ≤ 4096 :=
  Nat.le_trans (levX_len gs h8 k) (Nat.pow_le_pow_right (by omega) hk)
/-- words of a list are chosen -/
theorem rowG_take {rv : List Value} {rows : List Wd} (hl : rv.length = rows.length) {i : Nat} (hi : i < rows.length) : rowG (rv.take (i + 1)) (rows.take (i + 1)) = rowG (rv.take i) (rows.take i) ++ [(rv[i]?.getD undef, 2, i64s (rows[i]?.getD []))] := by
  have hi' : i < rv.length := by omega
  rw [List.take_succ_eq_append_getElem hi', List.take_succ_eq_append_getElem hi, rowG_snoc _ _ (by simp [hl]), List.getElem?_eq_getElem hi', List.getElem?_eq_getElem hi]
  rfl
theorem relS_step {m : Mch} {gs : List Int} {Q : List Wd} {rows : List Wd} {i : Nat} (hi : i < Q.length) (h : relS m gs (Q.take i) (.ok []) = .ok rows) : relS m gs (Q.take (i + 1)) (.ok []) = stW m gs (.ok rows) (Q[i]?.getD []) := by
  rw [List.take_succ_eq_append_getElem hi, relS_app, h, List.getElem?_eq_getElem hi]
  rfl
theorem relS_stop {m : Mch} {gs : List Int} {Q : List Wd} {c : Int} {i : Nat} (h : relS m gs (Q.take i) (.ok []) = .error c) : relS m gs Q (.ok []) = .error c := by
  have e : Q = Q.take i ++ Q.drop i := (List.take_append_drop i Q).symm
  rw [e, relS_app, h, relS_err]
theorem Mm.readR {B : Nat} {w0 w : World} {L : List (Nat × List Value × TypeId)} {G : List (Value × TypeId × List Value)} (h : Mm B w0 w L G) {v : Value} {rq : List Value} {Q : List Wd} (hl : rq.length = Q.length) (hv : (v, 26, rq) ∈ G) (hr : ∀ x ∈ rowG rq Q, x ∈ G) {i : Nat} (hi : i < Q.length) :
    ∃ g c a d, v = .slice (some ⟨g, 0, none⟩) Q.length c ∧ rq[i]? = some (.slice a (Q[i]?.getD []).length d) ∧ w.cell? ⟨g, i, none⟩ = some (.slice a (Q[i]?.getD []).length d) ∧ IntsAt w a (Q[i]?.getD []) := by
  have ho := h.own _ hv
  simp only at ho
  obtain ⟨g, c, e, -, -, hc⟩ := own_form ho (by omega)
  have hrow : OwnI w B (rq[i]?.getD undef) (Q[i]?.getD []) := OwnI.of_row (h.own _ (hr _ (mem_of_get (rowG_get hl hi))))
  obtain ⟨a, d, e', hI⟩ := hrow.form
  have hq : rq[i]? = some (.slice a (Q[i]?.getD []).length d) := by
    rw [List.getElem?_eq_getElem (by omega : i < rq.length)] at e' ⊢
    rw [Option.getD_some] at e'
    rw [e']
  exact ⟨g, c, a, d, by rw [e, hl], hq, hc i _ hq, hI⟩
theorem stW_no {m : Mch} {gs : List Int} {rows : List Wd} {w : Wd} (h : cycB2 gs w = false) : stW m gs (.ok rows) w = .ok rows := by simp only [stW, h, if_true]
theorem stW_err {m : Mch} {gs : List Int} {rows : List Wd} {w : Wd} (h : cycB2 gs w = true) (h2 : trvR m w = (false, 3)) : stW m gs (.ok rows) w = .error 3 := by simp [stW, h, h2]
theorem stW_yes {m : Mch} {gs : List Int} {rows : List Wd} {w : Wd} (h : cycB2 gs w = true) (h2 : trvR m w = (true, 0)) : stW m gs (.ok rows) w = .ok (rows ++ [w]) := by simp [stW, h, h2]
theorem stW_else {m : Mch} {gs : List Int} {rows : List Wd} {w : Wd} (h : cycB2 gs w = true) (h2 : trvR m w = (false, 0)) : stW m gs (.ok rows) w = .ok rows := by simp [stW, h, h2]
theorem cycB2_one {gs : List Int} {w : Wd} (h : w.length ≤ 1) : cycB2 gs w = true := by rw [cycB2, decide_eq_true h]; rfl
theorem cycB2_more {gs : List Int} {w : Wd} (h : ¬ w.length ≤ 1) : cycB2 gs w = okP gs (lastW w) (headW w) := by rw [cycB2, decide_eq_false h]; rfl
end Go.Proofs.Yteagecoiijhflaa

/- The minimal table: the least states of the classes, their ranks. -/
namespace Go.Proofs.Yteagecoiijhflaa
set_option linter.unusedVariables false
set_option linter.unusedSimpArgs false

section
variable (t : Tbl)
/-- how many least states are below q -/
def Tbl.rk (q : Nat) : Nat := ((List.range q).filter fun r => t.fin r == r).length
/-- the least states -/
def Tbl.reps : List Nat := (List.range t.n).filter fun r => t.fin r == r
/-- the number of a state in the minimal table -/
def Tbl.num (q : Nat) : Nat := t.rk (t.fin q)
variable {t}
theorem Tbl.rk_succ (q : Nat) : t.rk (q + 1) = t.rk q + if t.fin q = q then 1 else 0 := by
  simp only [Tbl.rk, List.range_succ, List.filter_append, List.length_append, List.filter_cons, List.filter_nil]
  by_cases h : t.fin q = q
  · simp [h]
  · simp [h]
theorem Tbl.rk_mono {q r : Nat} (h : q ≤ r) : t.rk q ≤ t.rk r := by
  induction r with
  | zero => rw [show q = 0 by omega]; exact Nat.le_refl _
  | succ r ih =>
    by_cases e : q = r + 1
    · rw [e]; exact Nat.le_refl _
    · have := ih (by omega)
      rw [Tbl.rk_succ]; omega
theorem Tbl.rk_le (q : Nat) : t.rk q ≤ q := by
  induction q with
  | zero => simp [Tbl.rk]
  | succ q ih => rw [Tbl.rk_succ]; split <;> omega
theorem Tbl.rk_lt {q r : Nat} (hf : t.fin q = q) (h : q < r) : t.rk q < t.rk r := by
  have h1 := t.rk_mono (show q + 1 ≤ r by omega)
  rw [Tbl.rk_succ, if_pos hf] at h1
  omega
theorem Tbl.reps_len : t.reps.length = t.rk t.n := rfl
theorem Tbl.fin_fin (q : Nat) : t.fin (t.fin q) = t.fin q := t.cls_cls t.n q
theorem Tbl.num_lt {q : Nat} (hq : q < t.n) : t.num q < t.rk t.n := t.rk_lt (t.fin_fin q) (Nat.lt_of_le_of_lt (t.fin_le q) hq)
theorem Tbl.reps_upto (q : Nat) : ∀ n, q < n → t.fin q = q → ((List.range n).filter fun r => t.fin r == r)[t.rk q]? = some q := by
  intro n
  induction n with
  | zero => intro h; omega
  | succ n ih =>
    intro h hf
    rw [List.range_succ, List.filter_append]
    by_cases e : q = n
    · subst e
      rw [List.getElem?_append_right (by exact Nat.le_refl _)]
      simp [Tbl.rk, hf]
    · have h1 := ih (by omega) hf
      rw [List.getElem?_append_left (List.getElem?_eq_some_iff.1 h1).1]
      exact h1
theorem Tbl.reps_get {q : Nat} (hq : q < t.n) (hf : t.fin q = q) : t.reps[t.rk q]? = some q := t.reps_upto q t.n hq hf
theorem Tbl.reps_num {q : Nat} (hq : q < t.n) : t.reps[t.num q]? = some (t.fin q) := t.reps_get (Nat.lt_of_le_of_lt (t.fin_le q) hq) (t.fin_fin q)
theorem Tbl.fin_next (hw : t.Wf) (hn : 1 ≤ t.n) {q x : Nat} (hq : q < t.n) (hx : x < t.d) : t.ot q x = t.ot (t.fin q) x ∧ t.fin (t.nx q x) = t.fin (t.nx (t.fin q) x) := by
  have h := t.cls_eqv (t.n + 1) q
  rw [t.fin_late hw hn (by omega) hq, Tbl.eqv_succ] at h
  have h2 := h x hx
  exact ⟨h2.1, (t.cls_iff t.n _ _).1 h2.2⟩
/-- state i of the minimal table, in the table -/
def Tbl.rep (t : Tbl) (i : Nat) : Nat := t.reps[i]?.getD 0
theorem Tbl.rep_num {q : Nat} (hq : q < t.n) : t.rep (t.num q) = t.fin q := by rw [Tbl.rep, t.reps_num hq]; rfl
theorem Tbl.rep_lt {i : Nat} (hi : i < t.rk t.n) : t.rep i < t.n ∧ t.fin (t.rep i) = t.rep i := by
  have h : i < t.reps.length := hi
  have hm := List.getElem_mem h
  rw [Tbl.rep, List.getElem?_eq_getElem h, Option.getD_some]
  simp only [Tbl.reps, List.mem_filter, List.mem_range, beq_iff_eq] at hm ⊢
  exact hm
/-- the minimal table -/
def Tbl.minT (t : Tbl) : Tbl := ⟨t.rk t.n, t.d, fun i x => t.num (t.nx (t.rep i) x), fun i x => t.ot (t.rep i) x⟩
theorem Tbl.minT_wf (hw : t.Wf) : t.minT.Wf := fun i x hi hx => t.num_lt (hw _ _ (t.rep_lt hi).1 hx)
/-- the minimal table follows the table -/
theorem Tbl.minT_next (hw : t.Wf) (hn : 1 ≤ t.n) {q x : Nat} (hq : q < t.n) (hx : x < t.d) : t.minT.nx (t.num q) x = t.num (t.nx q x) ∧ t.minT.ot (t.num q) x = t.ot q x := by
  obtain ⟨h1, h2⟩ := t.fin_next hw hn hq hx
  simp only [Tbl.minT, t.rep_num hq]
  exact ⟨by simp only [Tbl.num]; rw [h2], h1.symm⟩
end
end Go.Proofs.Yteagecoiijhflaa

/- The minimal machine. -/
namespace Go.Proofs.Yteagecoiijhflaa
set_option linter.unusedVariables false
set_option linter.unusedSimpArgs false

/-- 16 rows of 3 numbers: n rows of d numbers are given, the rest are 0 -/
def grid (n d : Nat) (f : Nat → Nat → Nat) : List Int := (List.range 48).map fun j => if j / 3 < n ∧ j % 3 < d then (f (j / 3) (j % 3) : Int) else 0
theorem grid_len (n d : Nat) (f : Nat → Nat → Nat) : (grid n d f).length = 48 := by simp [grid]
theorem grid_get {n d : Nat} (f : Nat → Nat → Nat) (hn : n ≤ 16) (hd : d ≤ 3) {q x : Nat} (hq : q < n) (hx : x < d) : (grid n d f)[q * 3 + x]?.getD 0 = (f q x : Int) := by
  have h : q * 3 + x < 48 := by omega
  simp only [grid, List.getElem?_map, List.getElem?_range h, Option.map_some, Option.getD_some]
  rw [show (q * 3 + x) / 3 = q by omega, show (q * 3 + x) % 3 = x by omega, if_pos ⟨hq, hx⟩]
theorem grid_bound {n d b : Nat} {f : Nat → Nat → Nat} (hf : ∀ q x, q < n → x < d → f q x ≤ b) (i : Nat) : 0 ≤ (grid n d f)[i]?.getD 0 ∧ (grid n d f)[i]?.getD 0 ≤ (b : Int) := by
  by_cases h : i < 48
  · simp only [grid, List.getElem?_map, List.getElem?_range h, Option.map_some, Option.getD_some]
    split
    · rename_i hc
      have := hf _ _ hc.1 hc.2
      omega
    · omega
  · rw [List.getElem?_eq_none (by rw [grid_len]; omega)]
    simp only [Option.getD_none]; omega
def minM (m : Mch) : Mch := ⟨m.L, (m.tbl.rk m.s : Int), grid (m.tbl.rk m.s) m.l m.tbl.minT.nx, grid (m.tbl.rk m.s) m.l m.tbl.minT.ot⟩
theorem minM_s (m : Mch) : (minM m).s = m.tbl.rk m.s := by simp [Mch.s, minM]
theorem minM_l (m : Mch) : (minM m).l = m.l := rfl
theorem rk_le16 {m : Mch} (hok : m.Ok) : m.tbl.rk m.s ≤ 16 := Nat.le_trans (m.tbl.rk_le m.s) hok.s_le
theorem minT_nx_lt {m : Mch} (hok : m.Ok) (hwf : m.Wf) {q x : Nat} (hq : q < m.tbl.rk m.s) (hx : x < m.l) : m.tbl.minT.nx q x < m.tbl.rk m.s := Tbl.minT_wf (Mch.tbl_wf hok hwf) q x hq hx
theorem minT_ot_lt {m : Mch} (hok : m.Ok) (hwf : m.Wf) {q x : Nat} (hq : q < m.tbl.rk m.s) (hx : x < m.l) : m.tbl.minT.ot q x < m.l := hok.on_lt hwf (Tbl.rep_lt (t := m.tbl) hq).1 hx
theorem minM_wf {m : Mch} (hok : m.Ok) (hwf : m.Wf) : (minM m).Wf := by
  have h16 := rk_le16 hok
  have hl := hok.l_le
  refine ⟨grid_len _ _ _, grid_len _ _ _, fun i => ?_, fun i => ?_, hwf.lb, ?_⟩
  · have := grid_bound (n := m.tbl.rk m.s) (d := m.l) (b := 255) (f := m.tbl.minT.nx) (fun q x hq hx => by have := minT_nx_lt hok hwf hq hx; omega) i
    simpa [minM] using this
  · have := grid_bound (n := m.tbl.rk m.s) (d := m.l) (b := 255) (f := m.tbl.minT.ot) (fun q x hq hx => by have := minT_ot_lt hok hwf hq hx; omega) i
    simpa [minM] using this
  · simp only [minM]; omega
theorem minM_nn {m : Mch} (hok : m.Ok) {q x : Nat} (hq : q < m.tbl.rk m.s) (hx : x < m.l) : (minM m).nn q x = m.tbl.minT.nx q x := by
  simp only [Mch.nn, Mch.n, minM, grid_get _ (rk_le16 hok) hok.l_le hq hx, Int.toNat_natCast]
theorem minM_on {m : Mch} (hok : m.Ok) {q x : Nat} (hq : q < m.tbl.rk m.s) (hx : x < m.l) : (minM m).on q x = m.tbl.minT.ot q x := by
  simp only [Mch.on, Mch.o, minM, grid_get _ (rk_le16 hok) hok.l_le hq hx, Int.toNat_natCast]
theorem rk_pos {m : Mch} (hok : m.Ok) : 1 ≤ m.tbl.rk m.s := by
  have h0 : m.tbl.fin 0 = 0 := Nat.le_zero.1 (m.tbl.fin_le 0)
  have := Tbl.rk_lt (t := m.tbl) h0 (show 0 < m.s from hok.s_pos)
  omega
theorem minM_ok {m : Mch} (hok : m.Ok) (hwf : m.Wf) : (minM m).Ok := by
  have h16 := rk_le16 hok
  have hL := hok.L_eq
  have hg1 : ∀ q x : Nat, (q : Int) < (minM m).S → (x : Int) < (minM m).L → q < m.tbl.rk m.s ∧ x < m.l := fun q x hq hx => by
    simp only [minM] at hq hx
    exact ⟨by omega, by omega⟩
  have hn : ∀ q x : Nat, q < m.tbl.rk m.s → x < m.l → (minM m).n q x = (m.tbl.minT.nx q x : Int) := fun q x hq hx => by simp only [Mch.n, minM, grid_get _ h16 hok.l_le hq hx]
  have ho : ∀ q x : Nat, q < m.tbl.rk m.s → x < m.l → (minM m).o q x = (m.tbl.minT.ot q x : Int) := fun q x hq hx => by simp only [Mch.o, minM, grid_get _ h16 hok.l_le hq hx]
  refine ⟨hok.l2, hok.l3, ?_, ?_, fun q x hq hx => ?_, fun q x hq hx => ?_, fun q x y hq hx hy e => ?_⟩
  · have := rk_pos hok; simp only [minM]; omega
  · simp only [minM]; omega
  · obtain ⟨a, b⟩ := hg1 q x hq hx
    rw [hn q x a b]
    have := minT_nx_lt hok hwf a b
    simp only [minM]; omega
  · obtain ⟨a, b⟩ := hg1 q x hq hx
    rw [ho q x a b]
    have := minT_ot_lt hok hwf a b
    simp only [minM]; omega
  · obtain ⟨a, b⟩ := hg1 q x hq hx
    obtain ⟨_, c⟩ := hg1 q y hq hy
    rw [ho q x a b, ho q y a c] at e
    exact hok.on_inj hwf (Tbl.rep_lt (t := m.tbl) a).1 b c (Int.ofNat.inj e)
end Go.Proofs.Yteagecoiijhflaa

/- The machine of a word, plain: the states met, in their order. -/
namespace Go.Proofs.Yteagecoiijhflaa
open Go.RowKit
set_option linter.unusedVariables false
set_option linter.unusedSimpArgs false

/-- a state is put in, if it is new -/
def insN (S : List Nat) (r : Nat) : List Nat := if r ∈ S then S else S ++ [r]
/-- the first x letters of state q are done -/
def bfsX (t : Tbl) (q : Nat) (S : List Nat) : Nat → List Nat
  | 0 => S
  | x + 1 => insN (bfsX t q S x) (t.fin (t.nx q x))
/-- the first states are done -/
def bfsN (t : Tbl) : Nat → List Nat
  | 0 => [t.fin 0]
  | i + 1 => if i < (bfsN t i).length then bfsX t ((bfsN t i)[i]?.getD 0) (bfsN t i) t.d else bfsN t i
def ordT (t : Tbl) : List Nat := bfsN t t.n
structure BfsOk (t : Tbl) (S : List Nat) : Prop where
  nodup : S.Nodup
  lt : ∀ r ∈ S, r < t.n
  pos : 1 ≤ S.length
theorem nodup_len : ∀ (n : Nat) (S : List Nat), S.Nodup → (∀ r ∈ S, r < n) → S.length ≤ n
  | 0, S, _, h => by
    cases S with
    | nil => simp
    | cons a S => have := h a (List.mem_cons_self ..); omega
  | n + 1, S, hd, h => by
    by_cases hm : n ∈ S
    · have h1 := nodup_len n (S.erase n) (hd.erase n) (fun r hr => by
        have := h r (List.mem_of_mem_erase hr)
        have hne : r ≠ n := fun e => by subst e; exact (List.Nodup.not_mem_erase hd) hr
        omega)
      rw [List.length_erase_of_mem hm] at h1
      omega
    · have h1 := nodup_len n S hd (fun r hr => by
        have := h r hr
        have hne : r ≠ n := fun e => by subst e; exact hm hr
        omega)
      omega
theorem BfsOk.len {t : Tbl} {S : List Nat} (h : BfsOk t S) : S.length ≤ t.n := nodup_len _ _ h.nodup h.lt
theorem BfsOk.ins {t : Tbl} {S : List Nat} (h : BfsOk t S) {r : Nat} (hr : r < t.n) : BfsOk t (insN S r) := by
  unfold insN
  split
  · exact h
  · rename_i hm
    refine ⟨?_, fun x hx => ?_, by simp⟩
    · rw [List.nodup_append]
      exact ⟨h.nodup, by simp, fun a ha b hb => by rw [List.mem_singleton.1 hb]; intro e; subst e; exact hm ha⟩
    · rcases List.mem_append.1 hx with hx | hx
      · exact h.lt x hx
      · rw [List.mem_singleton.1 hx]; exact hr
theorem fin_lt {t : Tbl} {q : Nat} (h : q < t.n) : t.fin q < t.n := Nat.lt_of_le_of_lt (t.fin_le q) h
theorem BfsOk.row {t : Tbl} (hw : t.Wf) {S : List Nat} (h : BfsOk t S) {q : Nat} (hq : q < t.n) : ∀ x, x ≤ t.d → BfsOk t (bfsX t q S x)
  | 0, _ => h
  | x + 1, hx => (BfsOk.row hw h hq x (by omega)).ins (fin_lt (hw q x hq (by omega)))
theorem insN_pre (S : List Nat) (r : Nat) : ∃ R, insN S r = S ++ R := by
  unfold insN
  split
  · exact ⟨[], (List.append_nil S).symm⟩
  · exact ⟨[r], rfl⟩
theorem bfsX_pre (t : Tbl) (q : Nat) (S : List Nat) : ∀ x, ∃ R, bfsX t q S x = S ++ R
  | 0 => ⟨[], (List.append_nil S).symm⟩
  | x + 1 => by
    obtain ⟨R, h⟩ := bfsX_pre t q S x
    obtain ⟨R', h'⟩ := insN_pre (bfsX t q S x) (t.fin (t.nx q x))
    exact ⟨R ++ R', by rw [bfsX, h', h, List.append_assoc]⟩
theorem bfsN_ok {t : Tbl} (hw : t.Wf) (hn : 1 ≤ t.n) : ∀ i, BfsOk t (bfsN t i)
  | 0 => ⟨by simp [bfsN], fun r hr => by rw [List.mem_singleton.1 hr]; exact fin_lt (by omega), by simp [bfsN]⟩
  | i + 1 => by
    have h := bfsN_ok hw hn i
    rw [bfsN]
    split
    · rename_i hi
      refine h.row hw (h.lt _ ?_) _ (Nat.le_refl _)
      rw [List.getElem?_eq_getElem hi, Option.getD_some]
      exact List.getElem_mem hi
    · exact h
theorem bfsN_at {t : Tbl} (hw : t.Wf) (hn : 1 ≤ t.n) {i k : Nat} (hk : k < (bfsN t i).length) : (bfsN t i)[k]?.getD 0 < t.n := by
  rw [List.getElem?_eq_getElem hk, Option.getD_some]
  exact (bfsN_ok hw hn i).lt _ (List.getElem_mem hk)
theorem bfsN_end {t : Tbl} {i : Nat} (h : (bfsN t i).length ≤ i) : ∀ j, bfsN t (i + j) = bfsN t i
  | 0 => rfl
  | j + 1 => by
    have := bfsN_end h j
    rw [← Nat.add_assoc, bfsN, this, if_neg (by omega)]
theorem bfsN_pre (t : Tbl) (i : Nat) : ∀ j, ∃ R, bfsN t (i + j) = bfsN t i ++ R
  | 0 => ⟨[], (List.append_nil _).symm⟩
  | j + 1 => by
    obtain ⟨R, h⟩ := bfsN_pre t i j
    rw [← Nat.add_assoc, bfsN]
    split
    · obtain ⟨R', h'⟩ := bfsX_pre t ((bfsN t (i + j))[i + j]?.getD 0) (bfsN t (i + j)) t.d
      exact ⟨R ++ R', by rw [h', h, List.append_assoc]⟩
    · exact ⟨R, h⟩
theorem ordT_end {t : Tbl} (hw : t.Wf) (hn : 1 ≤ t.n) {i : Nat} (h : (bfsN t i).length ≤ i) : ordT t = bfsN t i := by
  rcases Nat.le_total i t.n with c | c
  · have := bfsN_end h (t.n - i)
    rwa [show i + (t.n - i) = t.n by omega] at this
  · have h2 := (bfsN_ok hw hn t.n).len
    have := bfsN_end h2 (i - t.n)
    rw [show t.n + (i - t.n) = i by omega] at this
    exact this.symm
theorem ordT_pre {t : Tbl} (hw : t.Wf) (hn : 1 ≤ t.n) (i : Nat) : ∃ R, ordT t = bfsN t i ++ R := by
  rcases Nat.le_total i t.n with c | c
  · obtain ⟨R, h⟩ := bfsN_pre t i (t.n - i)
    exact ⟨R, by rw [← h, show i + (t.n - i) = t.n by omega]; rfl⟩
  · have h2 := (bfsN_ok hw hn t.n).len
    have := bfsN_end h2 (i - t.n)
    rw [show t.n + (i - t.n) = i by omega] at this
    exact ⟨[], by rw [List.append_nil, this]; rfl⟩
theorem ordT_ok {t : Tbl} (hw : t.Wf) (hn : 1 ≤ t.n) : BfsOk t (ordT t) := bfsN_ok hw hn t.n
/-- all next states of the states met are met -/
theorem bfsX_mem {t : Tbl} {q : Nat} {S : List Nat} : ∀ {x y : Nat}, y < x → t.fin (t.nx q y) ∈ bfsX t q S x
  | 0, y, h => by omega
  | x + 1, y, h => by
    rw [bfsX]
    by_cases e : y = x
    · subst e
      unfold insN
      split
      · assumption
      · simp
    · obtain ⟨R, hR⟩ := insN_pre (bfsX t q S x) (t.fin (t.nx q x))
      rw [hR]
      exact List.mem_append_left _ (bfsX_mem (by omega))
theorem bfsN_step {t : Tbl} {i : Nat} (h : i < (bfsN t i).length) : bfsN t (i + 1) = bfsX t ((bfsN t i)[i]?.getD 0) (bfsN t i) t.d := by rw [bfsN, if_pos h]
theorem pre_at {S R : List Nat} {k : Nat} (h : k < S.length) : (S ++ R)[k]?.getD 0 = S[k]?.getD 0 := by rw [List.getElem?_append_left h]
theorem ordT_next {t : Tbl} (hw : t.Wf) (hn : 1 ≤ t.n) {k x : Nat} (hk : k < (ordT t).length) (hx : x < t.d) : t.fin (t.nx ((ordT t)[k]?.getD 0) x) ∈ ordT t := by
  have hlen := (ordT_ok hw hn).len
  -- the queue is longer than k when k is done
  by_cases hkk : k < (bfsN t k).length
  · have e1 := bfsN_step hkk
    obtain ⟨R, hR⟩ := ordT_pre hw hn k
    obtain ⟨R2, hR2⟩ := ordT_pre hw hn (k + 1)
    have e2 : (ordT t)[k]?.getD 0 = (bfsN t k)[k]?.getD 0 := by rw [hR, pre_at hkk]
    rw [e2, hR2, e1]
    exact List.mem_append_left _ (bfsX_mem hx)
  · have := ordT_end hw hn (i := k) (by omega)
    rw [this] at hk; omega
theorem ordT_zero {t : Tbl} (hw : t.Wf) (hn : 1 ≤ t.n) : (ordT t)[0]?.getD 0 = t.fin 0 := by
  obtain ⟨R, hR⟩ := ordT_pre hw hn 0
  rw [hR]; rfl
/-- all of the states met are the least of their kinds -/
theorem bfsX_fin {t : Tbl} {q : Nat} {S : List Nat} (h : ∀ r ∈ S, t.fin r = r) : ∀ x, ∀ r ∈ bfsX t q S x, t.fin r = r
  | 0 => h
  | x + 1 => fun r hr => by
    rw [bfsX] at hr
    unfold insN at hr
    split at hr
    · exact bfsX_fin h x r hr
    · rcases List.mem_append.1 hr with hr | hr
      · exact bfsX_fin h x r hr
      · rw [List.mem_singleton.1 hr]; exact t.fin_fin _
theorem bfsN_fin {t : Tbl} : ∀ i, ∀ r ∈ bfsN t i, t.fin r = r
  | 0 => fun r hr => by rw [List.mem_singleton.1 hr]; exact t.fin_fin _
  | i + 1 => by
    rw [bfsN]
    split
    · exact bfsX_fin (bfsN_fin i) _
    · exact bfsN_fin i

/-- the machine of some states of a table -/
def gathM (L : Int) (t : Tbl) (S : List Nat) (num : Nat → Nat) : Mch := ⟨L, (S.length : Int), grid S.length t.d (fun i x => num (t.nx (S[i]?.getD 0) x)), grid S.length t.d (fun i x => t.ot (S[i]?.getD 0) x)⟩
theorem gathM_wf {L : Int} {t : Tbl} {S : List Nat} {num : Nat → Nat} (hL : -9223372036854775808 ≤ L ∧ L ≤ 9223372036854775807) (hS : S.length ≤ 16) (h1 : ∀ i x, i < S.length → x < t.d → num (t.nx (S[i]?.getD 0) x) ≤ 255) (h2 : ∀ i x, i < S.length → x < t.d → t.ot (S[i]?.getD 0) x ≤ 255) : (gathM L t S num).Wf := by
  refine ⟨by simp [gathM, grid_len], by simp [gathM, grid_len], fun i => ?_, fun i => ?_, hL, ?_⟩
  · simpa [gathM] using grid_bound (n := S.length) (d := t.d) (b := 255) (f := fun i x => num (t.nx (S[i]?.getD 0) x)) h1 i
  · simpa [gathM] using grid_bound (n := S.length) (d := t.d) (b := 255) (f := fun i x => t.ot (S[i]?.getD 0) x) h2 i
  · simp only [gathM]; omega

/-- the table of a word's sections -/
def tblW (m : Mch) (Q : List Wd) (N : List (List Nat)) : Tbl := ⟨Q.length, m.l, fun i x => (N[i]?.getD [])[x]?.getD 0, fun i x => ledX m (Q[i]?.getD []) x⟩
def anyB : Wd → Bool := fun _ => true
/-- the machine of a word, or 3 -/
def mwT (L : Int) (t : Tbl) : Option Mch := if 16 < (ordT t).length then none else some (gathM L t (ordT t) fun r => (ordT t).idxOf (t.fin r))
def mwR (m : Mch) (g : Wd) : Option Mch := match secR m anyB g with
  | .error _ => none
  | .ok (Q, N) => mwT m.L (tblW m Q N)
theorem bSt_rows {m : Mch} (hok : m.Ok) (hwf : m.Wf) (want : Wd → Bool) {g : Wd} (hg : GW m g) : ∀ (i : Nat) {Q : List Wd} {N : List (List Nat)}, bSt m want g i = .ok (Q, N) → (i ≤ Q.length → N.length = i) ∧ (Q.length ≤ i → N.length = Q.length)
  | 0, Q, N, h => by
    have h1 := bSt_ok hok hwf want hg 0 h
    refine ⟨h1.2.1, fun hq => ?_⟩
    have := h1.1.pos; omega
  | i + 1, Q, N, h => by
    have h1 := bSt_ok hok hwf want hg (i + 1) h
    refine ⟨h1.2.1, fun hq => ?_⟩
    by_cases e : Q.length = i + 1
    · rw [e]; exact h1.2.1 (by omega)
    · rw [bSt] at h
      cases h2 : bSt m want g i with
      | error c => rw [h2] at h; cases h
      | ok p =>
        obtain ⟨Q1, N1⟩ := p
        have ih := bSt_rows hok hwf want hg i h2
        have hb := bSt_ok hok hwf want hg i h2
        rw [h2] at h
        simp only at h
        split at h
        · rename_i hi
          split at h
          · cases h3 : qRow m (Q1[i]?.getD []) m.l Q1 with
            | none => rw [h3] at h; cases h
            | some p =>
              obtain ⟨Q2, r⟩ := p
              rw [h3] at h
              injection h with h
              injection h with e1 e2
              subst e1 e2
              have hq := hb.1.toQOk.at hi
              have := (QOk.row hok hwf hq.1 hq.2 (Nat.le_refl _) hb.1.toQOk h3).2.2.2.1
              omega
          · cases h
        · injection h with h
          injection h with e1 e2
          subst e1 e2
          exact ih.2 (by omega)
theorem secR_ok {m : Mch} (hok : m.Ok) (hwf : m.Wf) {want : Wd → Bool} {g : Wd} (hg : GW m g) {Q : List Wd} {N : List (List Nat)} (h : secR m want g = .ok (Q, N)) : BOk m g.length Q N ∧ N.length = Q.length := by
  have h1 := bSt_ok hok hwf want hg 200 h
  exact ⟨h1.1, (bSt_rows hok hwf want hg 200 h).2 h1.1.many⟩
theorem tblW_wf {m : Mch} {Q : List Wd} {N : List (List Nat)} {n : Nat} (h : BOk m n Q N) (hl : N.length = Q.length) : (tblW m Q N).Wf := fun q x hq hx => by
  have hq' : q < N.length := by rw [hl]; exact hq
  have h1 := h.row _ (List.getElem_mem hq')
  simp only [tblW, List.getElem?_eq_getElem hq', Option.getD_some]
  have hx' : x < (N[q]).length := by rw [h1.1]; exact hx
  rw [List.getElem?_eq_getElem hx', Option.getD_some]
  exact h1.2 _ (List.getElem_mem hx')
theorem tblW_ot {m : Mch} (hok : m.Ok) (hwf : m.Wf) {Q : List Wd} {N : List (List Nat)} {n : Nat} (h : BOk m n Q N) {q x : Nat} (hq : q < Q.length) (hx : x < m.l) : (tblW m Q N).ot q x < m.l := ledX_lt hok hwf (h.toQOk.at hq).1 hx
theorem mwT_wf {m : Mch} (hok : m.Ok) (hwf : m.Wf) {g : Wd} (hg : GW m g) {M : Mch} (h : mwR m g = some M) : M.Wf := by
  unfold mwR at h
  cases hs : secR m anyB g with
  | error c => rw [hs] at h; cases h
  | ok p =>
    obtain ⟨Q, N⟩ := p
    rw [hs] at h
    obtain ⟨hb, hl⟩ := secR_ok hok hwf hg hs
    have hw := tblW_wf hb hl
    have hn : 1 ≤ (tblW m Q N).n := hb.pos
    simp only [mwT] at h
    split at h
    · cases h
    · rename_i hlen
      injection h with h
      subst h
      have hs := (ordT_ok hw hn)
      have hl3 := hok.l_le
      refine gathM_wf hwf.lb (by omega) (fun i x hi hx => ?_) (fun i x hi hx => ?_)
      · have := List.idxOf_lt_length_iff.2 (ordT_next hw hn hi hx)
        omega
      · have hq : (ordT (tblW m Q N))[i]?.getD 0 < Q.length := by
          rw [List.getElem?_eq_getElem hi, Option.getD_some]
          exact hs.lt _ (List.getElem_mem hi)
        have := tblW_ot hok hwf hb hq hx
        omega
end Go.Proofs.Yteagecoiijhflaa
