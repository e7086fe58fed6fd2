import Derived.Test.YteagecoiijhflaaZLOrderOf18
import Derived.Maps.AppendAt
import Derived.Test.YteagecoiijhflaaZLOrderOf16
import Derived.Test.YteagecoiijhflaaChecked
import Derived.JoinedOf
import Derived.Test.YteagecoiijhflaaRows
import Derived.WalkKit
import Derived.ProofKit
import Derived.OpenShut
import Derived.SizedLaws
import Derived.Carry
import Derived.Test.YteagecoiijhflaaZLOrderOf01
import Derived.Lib.SmallJoins
/- The program's search: the order of the last word; the order of a word. -/
namespace Go.Proofs.Yteagecoiijhflaa
open Go.RowKit
set_option linter.unusedVariables false
set_option linter.unusedSimpArgs false

set_option maxHeartbeats 1000000 in
theorem cycle2_any (G : Nat) (m : Mch) (hwf : m.Wf) (hok : m.Ok) (a : Option Addr) (g : Wd) (c : Nat) (hg : GW m g) (hl : g.length ≤ 1000) (x : Nat) (hx : x < m.l) (w : World) (hG : GrpR w G m) (hI : IntsAt w a g) :
    Calls Try.prog 95 #[.pointer (some ⟨G, 0, none⟩), .slice a g.length c, .int .i64 (x : Int)] w fun e w' => ∃ gv cv, e = .returned (.slice (some ⟨gv, 0, none⟩) (cycN m g x) cv) ∧ Below w.heap.size w w' ∧ w'.ownsRow w.heap.size 2 1 (.slice (some ⟨gv, 0, none⟩) (cycN m g x) cv) (cycN m g x) (cycV m g x (cycN m g x)) := by
  obtain ⟨i0, hi, hz0, hz1, hz2⟩ := info_parts Try.info2
  have HG := Lib.hid hG
  have HI := Lib.hid hI
  have HGW := Lib.hid hg
  have HN := Lib.hid (cycN_le m g x)
  have HIT := Lib.hid (itX_cyc hok hwf hg hx)
  have hM0 := (Mm.start w).newOwn #[.int .i64 (x : Int)] 2 1 rfl (by omega)
  clear hG hI hg
  go_enter Try.func95, Try.ntmps95
  go_wp2_with fail
  go_loopw [7] (fun v wr => ∃ j : Nat, Hid (j + 1 ≤ cycN m g x) ∧ Mm w.heap.size w wr [] [(v, 2, cycV m g x (j + 1))]) (fun v _ => 4 - slLn v)
  case atStart => exact ⟨0, HN.out.1, hM0⟩
  case round =>
    clear hM0
    obtain ⟨j, HJ, hM⟩ := hrel
    have hO := hM.own _ (List.mem_cons_self ..)
    simp only at hO
    have hj : j ≤ 2 := by have := HJ.out; have := HN.out.2; omega
    have hcap0 := own_cap hO
    obtain ⟨gv, cv, rfl, -, -, hcl⟩ := own_form hO (by rw [cycV_len]; omega)
    have hcap : j + 1 ≤ cv := by have := hcap0 _ _ _ rfl; rw [cycV_len] at this; exact this
    have c1 := hcl j _ (cycV_get m g x (Nat.lt_succ_self j))
    have hy := itX_lt hok hwf HGW.out hx j
    have HC := Lib.hid (at_any G m hwf hok a g c HGW.out hl (itX m g x j) hy wr (HG.out.keep hM.below) (HI.out.keep hM.below))
    rw [show ledX m g (itX m g x j) = itX m g x (j + 1) from rfl] at HC
    have HS := Lib.hid (cycV_snoc m g x (j + 1))
    have HE : Hid (itX m g x (j + 1) = x → j + 1 = cycN m g x) := fun e => by
      have h1 := HJ.out
      by_cases c : j + 1 < cycN m g x
      · exact absurd e (itX_ne (by omega) c)
      · omega
    have HE2 : Hid (itX m g x (j + 1) ≠ x → j + 2 ≤ cycN m g x) := fun e => by
      have h1 := HJ.out
      by_cases c : j + 1 = cycN m g x
      · rw [c] at e; exact absurd HIT.out e
      · omega
    have hln : (cycV m g x (j + 1)).length = j + 1 := cycV_len ..
    have i1 : (0 : Int) ≤ (j : Int) := by omega
    have e1 : IntKind.i64.wrap (((j + 1 : Nat) : Int) - 1) = (j : Int) := by rw [IntWalk.i64_in _ (by omega)]; omega
    rw [hln]
    rw [hln] at hM
    clear hO hcl hy hcap0
    generalize itX m g x (j + 1) = y at *
    generalize itX m g x j = z at *
    go_wp2_with fail
    refine HC.out.mono ?_
    rintro e w1 ⟨v, rfl, hb1, -⟩
    have hM1 := hM.call hb1
    clear hM HC c1
    by_cases e : y = x
    · have h1 := HE.out e
      have hb := hM1.below
      have hO := hM1.own _ (List.mem_cons_self ..)
      simp only at hO
      rw [hln, h1] at hO
      have HO := Lib.hid hO
      subst e
      rw [h1]
      clear hM1 HE HE2 hO
      go_wp2_with fail
      go_ret
      exact ⟨_, _, rfl, hb, HO.out⟩
    · have h1 := Lib.hid (HE2.out e)
      have e2 : ((y : Int) == (x : Int)) = false := by simp; omega
      clear HE HE2 e
      go_wp2_with (at_builtin; refine Mm.append rfl (.tmp 28) (.tmp 30) 26 rfl hM1 0 rfl Try.underlying26 hi hz0 hz1 hz2 rfl rfl rfl rfl (by omega) (by omega) ?_)
      intro g' cap' w3 hM3
      have HM3 : Hid (Mm w.heap.size w w3 [] [(.slice (some ⟨g', 0, none⟩) (j + 1 + 1) cap', 2, cycV m g x (j + 1 + 1))]) := by
        rw [HS.out]; show Mm _ _ _ _ _; simpa [cycV_len] using hM3
      clear hM1 hM3
      go_wp2_with fail
      go_roundw
      case rel => exact ⟨j + 1, h1.out, HM3.out⟩
      case measure => simp [slLn] <;> omega


theorem dN_below (w : World) (n : Nat) : Below w.heap.size w (w.drewN n) := ⟨rfl, rfl, rfl, Nat.le_refl _, fun _ _ => rfl⟩
theorem Fr.dN (w : World) (n sb : Nat) (pv : Value) : Fr w (w.drewN n) sb pv pv := Fr.of_below (dN_below w n) sb pv
theorem Fr.grow {w w1 w2 : World} {sb : Nat} {pv pv1 : Value} (h : Fr w w1 sb pv pv1) {row : Option Nat} (hg : w1.grownBy w2 row) (hr : ∀ k, row = some k → w.heap.size ≤ k) : Fr w w2 sb pv pv1 :=
  ⟨hg.os.trans h.os, hg.tape.trans h.tape, hg.output.trans h.output, Nat.le_trans h.size hg.size, fun k hk hs hp => (hg.block k (Nat.lt_of_lt_of_le hk h.size) (fun e => by have := hr k e.symm; omega)).trans (h.block k hk hs hp), h.lies⟩
/-- the letters that are done, sa numbers -/
def snI (s : List Nat) : List Int := s.map fun (x : Nat) => (x : Int)
theorem snI_mem {s : List Nat} {x : Nat} : ((x : Int) ∈ snI s) ↔ x ∈ s := by
  simp only [snI, List.mem_map]
  constructor
  · rintro ⟨y, hy, e⟩
    obtain rfl : y = x := by omega
    exact hy
  · intro h; exact ⟨x, h, rfl⟩
theorem snI_cyc (m : Mch) (g : Wd) (x n : Nat) : cycV m g x n = i64s (snI (cycL m g x n)) := by simp [cycV, i64s, snI, cycL]
theorem snI_app (s t : List Nat) : snI (s ++ t) = snI s ++ snI t := by simp [snI]
theorem ordL_len (m : Mch) (c : Nat → Ores) (g : Wd) : ∀ (i n : Nat) (s : List Nat), ordL m c g i = .go n s → s.length ≤ 3 * i
  | 0, n, s, h => by simp only [ordL] at h; injection h with h1 h2; subst h2; simp
  | i + 1, n, s, h => by
    simp only [ordL] at h
    split at h
    · cases h
    · rename_i n' s' h'
      have ih := ordL_len m c g i n' s' h'
      split at h
      · injection h with h1 h2; subst h2; omega
      · split at h
        · split at h
          · cases h
          · injection h with h1 h2
            subst h2
            rw [List.length_append, cycL_len]
            have := cycN_le m g i
            omega
        · cases h

set_option maxRecDepth 100000 in
set_option maxHeartbeats 4000000 in
theorem sorder_step (m : Mch) (hwf : m.Wf) (hok : m.Ok) (B : Nat) (w0 : World) (hB : w0.heap.size = B) (G sb : Nat) (hG : GrpR w0 G m) (sub : Option (Pth → Wd → Ores)) (P : Pth) (g : Wd) (hP : POk P) (hlp : P.length ≤ 11) (hg : GW m g) (hl : g.length ≤ 40)
    (hoc : ∀ i, i < m.l → (ordC m sub P g i).Ok) (hs : List Value)
    (hcyc : ∀ x W gp c s f x0 k0, x < m.l → SrM B w0 W G sb (.slice (some ⟨gp, 0, none⟩) (P.length + 1) c) s f hs (P ++ [(g, x0, k0)]) →
      Calls Try.prog 141 #[.pointer (some ⟨sb, 0, none⟩), .int .i64 (P.length : Int), .int .i64 (x : Int)] W (RetC (ordC m sub P g x) B w0 G sb P g hs W (.slice (some ⟨gp, 0, none⟩) (P.length + 1) c)))
    (w : World) (gp c : Nat) (s : ByteArray) (f : Nat) (x0 k0 : Nat) (hM : SrM B w0 w G sb (.slice (some ⟨gp, 0, none⟩) (P.length + 1) c) s f hs (P ++ [(g, x0, k0)])) :
    Calls Try.prog 110 #[.pointer (some ⟨sb, 0, none⟩)] w (RetC (if g = [] then .ok 1 else (ordL m (ordC m sub P g) g m.l).fin) B w0 G sb P g hs w (.slice (some ⟨gp, 0, none⟩) (P.length + 1) c)) := by
  have h2 := hok.l_ge
  have h3 := hok.l_le
  have HGR : Hid (∀ W, Below B w0 W → GrpR W G m) := fun W hb => hG.keep (by rw [hB]; exact hb)
  have HGW := Lib.hid hg
  have HOC := Lib.hid hoc
  have HCYC := Lib.hid hcyc
  obtain ⟨ag, cg, hhd, hIg, hag⟩ := hM.ws P.length (g, x0, k0) (by simp)
  have hcell : w.cell? ⟨gp, P.length * 3, none⟩ = some (.slice ag g.length cg) := by
    have hM' : SrM B w0 w G sb (.slice (some ⟨gp, 0, none⟩) (P ++ [(g, x0, k0)]).length c) s f hs (P ++ [(g, x0, k0)]) := by simpa using hM
    obtain ⟨a, c', e, -, hr⟩ := hM'.row (i := P.length) (p := (g, x0, k0)) (by simp)
    rw [hhd] at e
    injection e with e
    rw [← e] at hr
    exact hr 0 _ rfl
  have HWL : Hid (∀ (i : Nat) (a : Option Addr) (n c : Nat), hs[i]? = some (Value.slice a n c) → ∀ ad, a = some ad → ad.block < w.heap.size) := fun i a n c e ad ea => by
    have hil : i < (P ++ [(g, x0, k0)]).length := by rw [← hM.hl]; exact (List.getElem?_eq_some_iff.1 e).1
    obtain ⟨a', c', e', -, hx⟩ := hM.ws i _ (List.getElem?_eq_getElem hil)
    rw [e] at e'
    injection e' with e'
    injection e' with e1 e2 e3
    subst e1
    exact (hx ad ea).2.2
  have HIG := Lib.hid hIg
  have HAG := Lib.hid hag
  have HM := Lib.hid hM
  have c1 := hM.blk.cell' (i := 1) rfl
  have i1 : (0 : Int) ≤ (P.length : Int) := by omega
  have i2 : (P.length : Int) < ((P.length + 1 : Nat) : Int) := by omega
  have i3 : (P.length : Int) < (P.length : Int) + 1 := by omega
  have e1 : IntKind.i64.wrap (((P.length + 1 : Nat) : Int) - 1) = (P.length : Int) := by rw [IntWalk.i64_in _ (by omega)]; omega
  clear hG hg hoc hcyc hhd hIg hag hM
  go_enter Try.func110, Try.ntmps110
  by_cases hg0 : g = []
  · subst hg0
    go_wp2_with fail
    go_ret2
    exact ⟨gp, c, s, f, x0, k0, HM.out, Fr.refl _ _ _, rfl⟩
  · rw [if_neg hg0]
    have hgl : ((g.length : Int) == 0) = false := by
      cases g with
      | nil => exact absurd rfl hg0
      | cons a l => simp; omega
    have c0 := HM.out.blk.cell' (i := 0) rfl
    have cl := (HGR.out w HM.out.below).mach.l
    rw [hok.L_eq] at cl
    go_wp2_with fail
    have HG0 := Lib.hid hg0
    clear c0 c1 cl hcell hg0 hgl e1
    obtain ⟨y0, yi, yz0, yz1, yz2⟩ := info_parts Try.info2
    go_loopw [6, 7, 36] (fun o sv xv wr => ∃ (i n : Nat) (seen : List Nat) (sa : Option Addr) (cs gp' c' : Nat) (s' : ByteArray) (f' x' k' : Nat), i ≤ m.l ∧ o = .int .i64 (n : Int) ∧ xv = .int .i64 (i : Int) ∧ sv = .slice sa (snI seen).length cs ∧ Hid (ordL m (ordC m sub P g) g i = .go n seen) ∧
      Hid (SrM B w0 wr G sb (.slice (some ⟨gp', 0, none⟩) (P.length + 1) c') s' f' hs (P ++ [(g, x', k')])) ∧ Hid (Fr w wr sb (.slice (some ⟨gp, 0, none⟩) (P.length + 1) c) (.slice (some ⟨gp', 0, none⟩) (P.length + 1) c')) ∧
      Hid (OwnI wr w.heap.size (.slice sa (snI seen).length cs) (snI seen)) ∧ Hid (∀ k, (Value.slice sa (snI seen).length cs).ownBlock = some k → k ≠ sb ∧ (Value.slice (some ⟨gp', 0, none⟩) (P.length + 1) c').ownBlock ≠ some k)) (fun _ _ x _ => 3 - (intOf x).toNat)
    case atStart => exact ⟨0, 1, [], none, 0, gp, c, s, f, x0, k0, Nat.zero_le _, rfl, rfl, rfl, rfl, HM.out, Fr.refl _ _ _, World.ownsRow_nil _ _ _ _, fun k h => by simp [Value.ownBlock] at h⟩
    case round =>
      obtain ⟨i, n, seen, sa, cs, gp', c', s', f', x', k', hi, rfl, rfl, rfl, HL, HS, HF, HO, HSP⟩ := hrel
      by_cases hlt : i < m.l
      · have hslen := ordL_len m _ g i n seen HL.out
        have hIs : IntsAt wr sa (snI seen) := by
          obtain ⟨a, c, e, hI⟩ := HO.out.form
          injection e with e1; rw [e1]; exact hI
        have HCT := Lib.hid (slContainsI_any sa cs (snI seen) (i : Int) (by simp [snI]; omega) wr hIs)
        have j1 : (i : Int) < (m.l : Int) := by omega
        have hw9 : IntKind.i64.wrap ((i : Int) + 1) = (i : Int) + 1 := IntWalk.i64_in _ (by omega)
        clear hIs
        go_wp2_with fail
        refine HCT.out.mono ?_
        rintro e w4 ⟨rfl, nd, rfl⟩
        have hb4 : Below wr.heap.size wr (wr.drewN nd) := ⟨rfl, rfl, rfl, Nat.le_refl _, fun _ _ => rfl⟩
        have HS4 := Lib.hid (HS.out.call hb4)
        have HF4 := Lib.hid (HF.out.trans (Fr.of_below hb4 sb (.slice (some ⟨gp', 0, none⟩) (P.length + 1) c')))
        have HO4 := Lib.hid (HO.out.below hb4)
        clear HCT HS HF HO hb4
        generalize wr.drewN nd = W4 at *
        by_cases hsn : i ∈ seen
        · have HL2 := Lib.hid (ordL_seen HL.out hsn)
          rw [decide_eq_true (snI_mem.2 hsn)]
          clear HL hsn
          go_wp2_with fail
          go_roundw
          case rel => exact ⟨i + 1, n, seen, sa, cs, gp', c', s', f', x', k', by omega, rfl, by go_num, rfl, HL2.out, HS4.out, HF4.out, HO4.out, HSP.out⟩
          case measure => simp [intOf] <;> omega
        · have HSN := Lib.hid hsn
          rw [decide_eq_false (fun h => hsn (snI_mem.1 h))]
          clear hsn
          have c0 := HS4.out.blk.cell' (i := 0) rfl
          have HCY := Lib.hid (cycle2_any G m hwf hok ag g cg HGW.out (by omega) i hlt W4 (HGR.out W4 HS4.out.below) (HF4.out.ints HIG.out fun ad e => ⟨(HAG.out ad e).1, (HAG.out ad e).2.1⟩))
          go_wp2_with fail
          refine HCY.out.mono ?_
          rintro e w5 ⟨gv, cv, rfl, hb5, hO5⟩
          have HS5 := Lib.hid (HS4.out.call hb5)
          have hF5 := HF4.out.trans (Fr.of_below hb5 sb (.slice (some ⟨gp', 0, none⟩) (P.length + 1) c'))
          have HF5 := Lib.hid hF5
          have hO5s : OwnI w5 w.heap.size (.slice sa (snI seen).length cs) (snI seen) := HO4.out.below hb5
          have hn := cycN_le m g i
          have hsl : (snI seen).length ≤ 9 := by simp [snI]; omega
          have hbs : w.heap.size ≤ w5.heap.size := hF5.size
          clear HCY HS4 HF4 HO4 hb5 c0 hF5
          rw [snI_cyc] at hO5
          have hcl : (snI (cycL m g i (cycN m g i))).length = cycN m g i := by simp [snI, cycL]
          go_wp2_with (at_builtin; refine wpList_append_own_at w5 rfl (.tmp 42) (.tmp 49) 26 rfl w.heap.size 2 y0 (.int .i64 0) 1 8 Try.underlying26 yi yz0 yz1 yz2 rfl (by decide) (.slice sa (snI seen).length cs) (snI seen).length (i64s (snI seen)) rfl hO5s ⟨gv, 0, none⟩ (cycN m g i) cv (i64s (snI (cycL m g i (cycN m g i)))) rfl (by simp [i64s, hcl]) (fun j u hj => World.ownsRow.cells hO5 (g := gv) rfl j u hj) (fun y hy => by obtain ⟨z, -, rfl⟩ := List.mem_map.1 hy; rfl) (by simp [maxLen]; omega) (by omega) hbs ?_)
          intro v6 w6 hown6 hgrow6 _ hlies6
          have hrow := World.ownsRow.lt hO5s
          have hsz5 := HS5.out.lt
          have hBw := HM.out.size
          have HS6 := Lib.hid (HS5.out.grow hgrow6 (fun k e => ⟨by have := (hrow k e).1; omega, HSP.out k e⟩) (fun q a n c e ad ea er => by have h1 := HWL.out q a n c e ad ea; have h2 := (hrow _ er).1; omega))
          have HF6 := Lib.hid (HF5.out.grow hgrow6 (fun k e => (hrow k e).1))
          have HO6 : Hid (OwnI w6 w.heap.size v6 (snI (seen ++ cycL m g i (cycN m g i)))) := by
            show World.ownsRow _ _ _ _ _ _ _
            rw [snI_app, List.length_append, hcl]
            have : i64s (snI seen ++ snI (cycL m g i (cycN m g i))) = i64s (snI seen) ++ i64s (snI (cycL m g i (cycN m g i))) := by simp [i64s]
            rw [this]; exact hown6
          have HSP6 : Hid (∀ k, v6.ownBlock = some k → k ≠ sb ∧ (Value.slice (some ⟨gp', 0, none⟩) (P.length + 1) c').ownBlock ≠ some k) := fun k e => by
            rcases hlies6 with l | l
            · rw [l] at e; exact HSP.out k e
            · rw [l] at e; injection e with e; subst e
              have h1 := (HS5.out.plo gp' rfl).2
              refine ⟨by omega, fun e => by simp only [Value.ownBlock, Option.some.injEq] at e; omega⟩
          obtain ⟨s6, c6, e6, -⟩ := HO6.out.form
          subst e6
          have HCA := Lib.hid (HCYC.out i w6 gp' c' s' f' x' k' hlt HS6.out)
          clear hO5 hO5s hgrow6 hown6 hlies6 hrow hsz5 HS5 HF5 HSP HS6 hsl hbs hcl
          go_wp2_with fail
          refine HCA.out.mono ?_
          rintro e w7 ⟨g7, c7, s7, f7, x7, k7, hS7, hF7, hR7⟩
          have hO7 := hF7.own HO6.out HSP6.out
          have HS7 := Lib.hid hS7
          have HF7 := Lib.hid (HF6.out.trans hF7)
          have HO7 : Hid (OwnI w7 w.heap.size (.slice s6 (snI (seen ++ cycL m g i (cycN m g i))).length c6) (snI (seen ++ cycL m g i (cycN m g i)))) := hO7.1
          have HSP7 := Lib.hid hO7.2
          have HOK := Lib.hid (HOC.out i hlt)
          have HLB := Lib.hid (fun k hc hb3 => ordL_big (k := k) HL.out HSN.out hc hb3)
          have HLG := Lib.hid (fun k hc hb3 => ordL_go (k := k) HL.out HSN.out hc hb3)
          have HLE := Lib.hid (fun e hc he => ordL_ores (e := e) HL.out HSN.out hc he)
          have hn1 := (ordL_ok (fun i h => HOC.out i h) i (by omega) : ((ordL m (ordC m sub P g) g i).fin).Ok)
          rw [HL.out] at hn1
          have hn1 : 1 ≤ n ∧ n ≤ 1000000000000 := hn1
          clear hO7 hS7 hF7 HCA HF6 HO6 HSP6 HL
          obtain ⟨E, hE⟩ : ∃ E, E = ordC m sub P g i := ⟨_, rfl⟩
          rw [← hE] at hR7 HOK
          have HE := Lib.hid hE.symm
          clear hE
          cases E with
          | ok k2 =>
            obtain rfl : e = .returned (.tuple #[.int .i64 (k2 : Int), .int .i64 0]) := hR7
            have hb2 : 1 ≤ k2 ∧ k2 ≤ 1000000000000 := HOK.out
            have j5 : ((k2 : Int) == 0) = false := by simp; omega
            have HLB2 := Lib.hid (HLB.out k2 HE.out)
            have HLG2 := Lib.hid (HLG.out k2 HE.out)
            clear HLB HLG HLE
            have HDQ := Lib.hid (fun W => common_any n k2 hn1.2 hb2.2 W)
            have HMU := Lib.hid (fun h W => multiple_any n k2 hn1 hb2 h W)
            have hd0 : 0 < Nat.gcd n k2 := Nat.gcd_pos_of_pos_left _ (by omega)
            have hdn : Nat.gcd n k2 ≤ n := Nat.gcd_le_left _ (by omega)
            generalize Nat.gcd n k2 = d at *
            have hq1 : n / d ≤ n := Nat.div_le_self _ _
            have hq2 : 1000000000000 / k2 ≤ 1000000000000 := Nat.div_le_self _ _
            have e13 : IntKind.i64.wrap ((n : Int) / (d : Int)) = ((n / d : Nat) : Int) := by
              rw [← Int.natCast_ediv]
              generalize n / d = qq at *
              exact IntWalk.i64_in _ (by omega)
            have e14 : IntKind.i64.wrap (Int.tdiv 1000000000000 (k2 : Int)) = ((1000000000000 / k2 : Nat) : Int) := by
              rw [Int.tdiv_eq_ediv_of_nonneg (by omega)]
              rw [show (1000000000000 : Int) / (k2 : Int) = ((1000000000000 / k2 : Nat) : Int) by rw [Int.natCast_ediv]; rfl]
              generalize 1000000000000 / k2 = qq at *
              exact IntWalk.i64_in _ (by omega)
            have j8 : d ≠ 0 := by omega
            have j9 : k2 ≠ 0 := by omega
            have hqc : n / d * k2 ≤ 1000000000000 ∨ 1000000000000 / k2 < n / d := by
              rcases Nat.lt_or_ge (1000000000000 / k2) (n / d) with h | h
              · exact .inr h
              · exact .inl (Nat.le_trans (Nat.mul_le_mul_right k2 h) (Nat.div_mul_le_self _ _))
            obtain ⟨q1, hq1'⟩ : ∃ q, q = n / d := ⟨_, rfl⟩
            obtain ⟨q2, hq2'⟩ : ∃ q, q = 1000000000000 / k2 := ⟨_, rfl⟩
            rw [← hq1'] at e13 HLB2 HLG2 hqc HMU
            rw [← hq2'] at e14 HLB2 HLG2 hqc
            clear hq1 hq2 hq1' hq2' hdn hd0
            by_cases hb3 : q2 < q1
            · have HF : Hid ((ordL m (ordC m sub P g) g m.l).fin = .lim) := ordL_fin hlt (HLB2.out hb3)
              have j7 : (q2 : Int) < (q1 : Int) := by omega
              clear hqc HLB2 HLG2 HMU
              go_wp2_with fail
              go_quiet ((go_at_call 142; exact Calls.quiet_of (HDQ.out _)))
              go_wp2_with fail
              go_ret2
              rw [HF.out]
              exact ⟨g7, c7, s7, f7, x7, k7, HS7.out.drewN _, HF7.out.trans (Fr.dN _ _ _ _), rfl⟩
            · have HLN := Lib.hid (HLG2.out hb3)
              have j7 : ¬ ((q2 : Int) < (q1 : Int)) := by omega
              have hqc : q1 * k2 ≤ 1000000000000 := by omega
              have HMV := Lib.hid (HMU.out hqc)
              clear HLB2 HLG2 HMU
              go_wp2_with fail
              go_quiet ((go_at_call 142; exact Calls.quiet_of (HDQ.out _)))
              go_wp2_with (refine (HMV.out _).mono ?_; rintro e w8 ⟨rfl, nd2, rfl⟩)
              go_roundw
              case rel => exact ⟨i + 1, q1 * k2, seen ++ cycL m g i (cycN m g i), s6, c6, g7, c7, s7, f7, x7, k7, by omega, by go_num, by go_num, rfl, HLN.out, HS7.out.drewN _, HF7.out.trans (Fr.dN _ _ _ _), HO7.out.below (dN_below _ _), HSP7.out⟩
              case measure => simp [intOf] <;> omega
          | inf ls2 f2 =>
            obtain ⟨rfl, rfl, rfl⟩ : e = .returned (.tuple #[.int .i64 0, .int .i64 0]) ∧ s7 = txt ls2 ∧ f7 = f2 := hR7
            have HF : Hid ((ordL m (ordC m sub P g) g m.l).fin = .inf ls2 f7) := ordL_fin hlt (HLE.out _ HE.out (fun k h => by cases h))
            clear HLB HLG HLE
            go_wp2_with fail
            go_ret2
            rw [HF.out]
            exact ⟨g7, c7, _, f7, x7, k7, HS7.out, HF7.out, rfl, rfl, rfl⟩
          | lim =>
            obtain rfl : e = .returned (.tuple #[.int .i64 0, .int .i64 3]) := hR7
            have HF : Hid ((ordL m (ordC m sub P g) g m.l).fin = .lim) := ordL_fin hlt (HLE.out _ HE.out (fun k h => by cases h))
            clear HLB HLG HLE
            go_wp2_with fail
            go_ret2
            rw [HF.out]
            exact ⟨g7, c7, s7, f7, x7, k7, HS7.out, HF7.out, rfl⟩
      · have hi' : i = m.l := by omega
        subst hi'
        have HF2 : Hid ((ordL m (ordC m sub P g) g m.l).fin = .ok n) := by show _ = _; rw [HL.out]; rfl
        have j1 : ¬ ((m.l : Int) < (m.l : Int)) := by omega
        clear HL
        go_wp2_with fail
        go_ret2
        rw [HF2.out]
        exact ⟨gp', c', s', f', x', k', HS.out, HF.out, rfl⟩

/-- the search for the order of the last word of a path -/
theorem sorder_any (m : Mch) (hwf : m.Wf) (hok : m.Ok) (B : Nat) (w0 : World) (hB : w0.heap.size = B) (G sb : Nat) (hG : GrpR w0 G m) : ∀ (n : Nat) (P : Pth) (g : Wd) (w : World) (gp c : Nat) (s : ByteArray) (f : Nat) (hs : List Value) (x0 k0 : Nat), P.length + n = 11 → POk P → (∀ p ∈ P, p.1.length ≤ 40) → (∀ p ∈ P, p.2.1 < 3) → GW m g → g.length ≤ 40 →
    SrM B w0 w G sb (.slice (some ⟨gp, 0, none⟩) (P.length + 1) c) s f hs (P ++ [(g, x0, k0)]) →
    Calls Try.prog 110 #[.pointer (some ⟨sb, 0, none⟩)] w (RetC (ordS m n P g) B w0 G sb P g hs w (.slice (some ⟨gp, 0, none⟩) (P.length + 1) c))
  | 0, P, g, w, gp, c, s, f, hs, x0, k0, hn, hP, hq, hp, hg, hl, hM => by
    have h := sorder_step m hwf hok B w0 hB G sb hG none P g hP (by omega) hg hl (fun i _ => ordC_ok hP (by omega) (fun s h => by cases h)) hs
      (fun x W gp c s f x0 k0 hx hM => scycle_step m hwf hok B w0 hB G sb hG none P g hP hq hp (by omega) ⟨(fun _ => by omega), (fun _ => rfl)⟩ hg hl x hx (fun s h => by cases h) (fun s h => by cases h) W gp c s f hs x0 k0 hM) w gp c s f x0 k0 hM
    by_cases h0 : g = []
    · subst h0; rw [ordS_nil]; rw [if_pos rfl] at h; exact h
    · rw [ordS_eq m 0 P h0]; rw [if_neg h0] at h; exact h
  | n + 1, P, g, w, gp, c, s, f, hs, x0, k0, hn, hP, hq, hp, hg, hl, hM => by
    have hso : ∀ s, some (ordS m n) = some s → ∀ Q r, POk Q → Q.length = P.length + 1 → (s Q r).Ok := fun s h Q r hQ hQl => by injection h with h; subst h; exact ordS_ok m n Q r hQ (by omega)
    have h := sorder_step m hwf hok B w0 hB G sb hG (some (ordS m n)) P g hP (by omega) hg hl (fun i _ => ordC_ok hP (by omega) hso) hs
      (fun x W gp c s f x0 k0 hx hM => scycle_step m hwf hok B w0 hB G sb hG (some (ordS m n)) P g hP hq hp (by omega) ⟨(fun h => by cases h), (fun h => by omega)⟩ hg hl x hx hso
        (fun s h Q r W gp c st f hs x0 k0 hQl hQ h1 h2 hr hrl hM => by injection h with h; subst h; exact sorder_any m hwf hok B w0 hB G sb hG n Q r W gp c st f hs x0 k0 (by omega) hQ h1 h2 hr hrl hM) W gp c s f hs x0 k0 hM) w gp c s f x0 k0 hM
    by_cases h0 : g = []
    · subst h0; rw [ordS_nil]; rw [if_pos rfl] at h; exact h
    · rw [ordS_eq m (n + 1) P h0]; rw [if_neg h0] at h; exact h
end Go.Proofs.Yteagecoiijhflaa

/- The order of a word of the program. -/
namespace Go.Proofs.Yteagecoiijhflaa
open Go.RowKit
set_option linter.unusedVariables false
set_option linter.unusedSimpArgs false

theorem isInf_or (r : Ores) : (∃ ls f, r = .inf ls f) ∨ ∀ ls f, r ≠ .inf ls f := by
  cases r with
  | inf ls f => exact .inl ⟨ls, f, rfl⟩
  | ok n => exact .inr fun _ _ h => by cases h
  | lim => exact .inr fun _ _ h => by cases h
theorem RetC.form {r : Ores} {B : Nat} {w0 : World} {G sb : Nat} {P : Pth} {g : Wd} {hs : List Value} {w : World} {pv : Value} {e : Ending} {w' : World} (h : RetC r B w0 G sb P g hs w pv e w') :
    ∃ gp' c' s' f' x' k', e = .returned (.tuple #[.int .i64 (resN r : Int), .int .i64 (resC r : Int)]) ∧ SrM B w0 w' G sb (.slice (some ⟨gp', 0, none⟩) (P.length + 1) c') s' f' hs (P ++ [(g, x', k')]) ∧ ((∃ ls f, r = .inf ls f) → s' = resS r ∧ f' = resF r) := by
  obtain ⟨gp', c', s', f', x', k', h1, h2, h3⟩ := h
  cases r with
  | ok n => exact ⟨gp', c', s', f', x', k', h3, h1, fun ⟨_, _, e⟩ => by cases e⟩
  | inf ls f => exact ⟨gp', c', s', f', x', k', h3.1, h1, fun _ => h3.2⟩
  | lim => exact ⟨gp', c', s', f', x', k', h3, h1, fun ⟨_, _, e⟩ => by cases e⟩

set_option maxRecDepth 100000 in
set_option maxHeartbeats 4000000 in
theorem gorder_any (m : Mch) (hwf : m.Wf) (hok : m.Ok) (G : Nat) (a : Option Addr) (g : Wd) (c : Nat) (hg : GW m g) (hl : g.length ≤ 40) (w : World) (hG : GrpR w G m) (hI : IntsAt w a g) :
    Calls Try.prog 70 #[.pointer (some ⟨G, 0, none⟩), .slice a g.length c] w fun e w' => ∃ (s : ByteArray) (f : Nat), e = .returned (.tuple #[.int .i64 (resN (ordW m g) : Int), .agg #[.string s, .int .i64 (f : Int)], .int .i64 (resC (ordW m g) : Int)]) ∧ Below w.heap.size w w' ∧ ((∃ ls q, ordW m g = .inf ls q) → s = resS (ordW m g) ∧ f = resF (ordW m g)) := by
  have HMX := Lib.hid (show Try.prog.follows .mixedOrders = true by kernel_rfl)
  have hM0 := (Mm.start w).alloc #[.string ⟨#[]⟩, .int .i64 0] 53
  have hb0 := hM0.below
  have HNO := Lib.hid (normal_any G m hwf hok a g c hg (by omega) _ (hG.keep hb0) (hI.keep hb0))
  have HG := Lib.hid hG
  have HGN : Hid (GW m (nrm m g) ∧ (nrm m g).length ≤ 40) := ⟨nrm_gw hg, Nat.le_trans (nrm_len m g) hl⟩
  have HM0 := Lib.hid hM0
  clear hI hg hG hM0 hb0
  go_enter Try.func70, Try.ntmps70
  go_wp2_with fail
  refine HNO.out.mono ?_
  rintro e w2 ⟨v, rfl, hb2, hO2⟩
  have HM2 := Lib.hid (HM0.out.call hb2)
  obtain ⟨ar, cr, rfl, hIr⟩ := hO2.form
  have har : ∀ ad, ar = some ad → ad.block < w2.heap.size := fun ad e => by
    have := World.ownsRow.lt hO2 ad.block
    rcases hO2.2 with ⟨e2, _⟩ | ⟨g8, c8, cur, e2, h1, h2, -⟩
    · injection e2 with e1; rw [e] at e1; cases e1
    · injection e2 with e1; rw [e] at e1; injection e1 with e1; subst e1; exact (Array.getElem?_eq_some_iff.1 h2).1
  have hsr : SrM w2.heap.size w2 ((w2.alloc (.cells #[.slice ar (nrm m g).length cr, .int .i64 0, .int .i64 0] 140)).alloc (.cells #[.pointer (some ⟨G, 0, none⟩), .slice (some ⟨w2.heap.size, 0, none⟩) 1 1, .string ⟨#[]⟩, .int .i64 0] 143)) G (w2.heap.size + 1) (.slice (some ⟨w2.heap.size, 0, none⟩) 1 1) ⟨#[]⟩ 0 [.slice ar (nrm m g).length cr] ([] ++ [(nrm m g, 0, 0)]) := by
    have hb1 : Below w2.heap.size w2 (w2.alloc (.cells #[.slice ar (nrm m g).length cr, .int .i64 0, .int .i64 0] 140)) := (Below.refl _ _).alloc (Nat.le_refl _) _
    have hs1 : (w2.alloc (.cells #[.slice ar (nrm m g).length cr, .int .i64 0, .int .i64 0] 140)).heap.size = w2.heap.size + 1 := by simp
    have hb : Below w2.heap.size w2 ((w2.alloc (.cells #[.slice ar (nrm m g).length cr, .int .i64 0, .int .i64 0] 140)).alloc (.cells #[.pointer (some ⟨G, 0, none⟩), .slice (some ⟨w2.heap.size, 0, none⟩) 1 1, .string ⟨#[]⟩, .int .i64 0] 143)) := hb1.alloc (by omega) _
    have hk1 := (Blk.new w2 #[.slice ar (nrm m g).length cr, .int .i64 0, .int .i64 0] 140).keep ((Below.refl _ _).alloc (Nat.le_refl _) (.cells #[.pointer (some ⟨G, 0, none⟩), .slice (some ⟨w2.heap.size, 0, none⟩) 1 1, .string ⟨#[]⟩, .int .i64 0] 143))
    have hk2 := Blk.new (w2.alloc (.cells #[.slice ar (nrm m g).length cr, .int .i64 0, .int .i64 0] 140)) #[.pointer (some ⟨G, 0, none⟩), .slice (some ⟨w2.heap.size, 0, none⟩) 1 1, .string ⟨#[]⟩, .int .i64 0] 143
    rw [hs1] at hk2
    refine ⟨hb, hb.size, by omega, hk2, rfl, ⟨by simp [cellsS, rowS], .inr ⟨w2.heap.size, 1, _, rfl, Nat.le_refl _, hk1, by simp, by simp [maxLen], by simp, by simp [cellsS, rowS]⟩⟩, by simp [Value.ownBlock], fun i p hi => ?_⟩
    have hi2 := (List.getElem?_eq_some_iff.1 hi).1
    obtain rfl : i = 0 := by simpa using hi2
    simp at hi; subst hi
    refine ⟨ar, cr, rfl, hIr.keep hb, fun ad e => ?_⟩
    have := har ad e
    refine ⟨by omega, fun e => by simp only [Value.ownBlock, Option.some.injEq] at e; omega, by have := hb.size; omega⟩
  have HOR := Lib.hid (sorder_any m hwf hok w2.heap.size w2 rfl G (w2.heap.size + 1) (HG.out.keep ((HM2.out).below)) 11 [] (nrm m g) _ w2.heap.size 1 ⟨#[]⟩ 0 _ 0 0 rfl (fun p h => by cases h) (fun p h => by cases h) (fun p h => by cases h) HGN.out.1 HGN.out.2 hsr)
  clear hO2 hIr har hsr hb2 HNO
  go_wp2_with fail
  refine HOR.out.mono ?_
  intro e w7 hR
  obtain ⟨gp', c', s', f', x', k', rfl, hS7, hinf⟩ := RetC.form hR
  have hM7 := HM2.out.call hS7.below
  have HINF := Lib.hid hinf
  have HORD : Hid (ordS m 11 [] (nrm m g) = ordW m g) := rfl
  rw [HORD.out] at HINF ⊢
  have hB7 := hS7.blk
  clear HOR hR hS7 hinf HM0 HM2
  generalize w2.heap.size + 1 = sb at *
  generalize hRN : resN (ordW m g) = rn at *
  generalize hRC : resC (ordW m g) = rc at *
  have HRN := Lib.hid hRN
  have HRC := Lib.hid hRC
  clear hRN hRC
  go_wp2_with fail
  have hMd := hM7.drew
  obtain ⟨Wd, hWd⟩ : ∃ W, W = w7.drew := ⟨_, rfl⟩
  rw [← hWd] at hMd
  refine region_S (fun W => Blk W sb [.pointer (some ⟨G, 0, none⟩), .slice (some ⟨gp', 0, none⟩) (([] : Pth).length + 1) c', .string s', .int .i64 (f' : Int)] 143) [] 9 rfl HMX.out hB7 (fun hU => ?_)
  rw [← hWd] at hU ⊢
  have hBd : Blk Wd sb [.pointer (some ⟨G, 0, none⟩), .slice (some ⟨gp', 0, none⟩) (([] : Pth).length + 1) c', .string s', .int .i64 (f' : Int)] 143 := by rw [hWd]; exact hB7.drew
  have hsb : sb ≠ w.heap.size := fun e => by
    have h1 := hMd.at 0 rfl
    simp only at h1
    rw [← e] at h1
    have := h1.symm.trans hBd
    simp at this
  have HBd := Lib.hid hBd
  clear hWd hB7 hBd
  (refine AnyS.take (i := 0) rfl (by kernel_rfl) (by kernel_rfl) (by kernel_rfl) (by rfl) (fun _ _ _ h => h) (by rfl) (by intro w; go_simp; with_reducible rfl) hU (fun hU => ?_); (try simp only [Act.put, List.setIfInBounds_toArray, List.set_cons_zero, List.set_cons_succ]); refine AnyS.take (i := 1) rfl (by kernel_rfl) (by kernel_rfl) (by kernel_rfl) (by rfl) (fun _ _ _ h => h) (by rfl) (by intro w; go_simp; with_reducible rfl) hU (fun hU => ?_); (try simp only [Act.put, List.setIfInBounds_toArray, List.set_cons_zero, List.set_cons_succ]); refine AnyS.take (i := 2) rfl (by kernel_rfl) (by kernel_rfl) (by kernel_rfl) (by rfl) (fun _ _ _ h => h) (by rfl) (by intro w; go_simp; with_reducible rfl) hU (fun hU => ?_); (try simp only [Act.put, List.setIfInBounds_toArray, List.set_cons_zero, List.set_cons_succ]); refine AnyS.take (i := 3) rfl (by kernel_rfl) (by kernel_rfl) (by kernel_rfl) (by rfl) (fun _ _ _ h => h) (by rfl) (by intro w; go_simp; with_reducible rfl) hU (fun hU => ?_); (try simp only [Act.put, List.setIfInBounds_toArray, List.set_cons_zero, List.set_cons_succ]))
  (refine AnyS.takeS (i := 4) rfl (by kernel_rfl) (by kernel_rfl) (by kernel_rfl) (by rfl) (by kernel_rfl) (by kernel_rfl) (fun _ _ _ h => h) (by rfl) (by intro W hSw; have h2 := hSw.cell' (i := 2) rfl; have h3 := hSw.cell' (i := 3) rfl; clear hSw; go_simp; with_reducible rfl) hU (fun hU => ?_); (try simp only [Act.put, List.setIfInBounds_toArray, List.set_cons_zero, List.set_cons_succ]))
  (refine AnyS.take (i := 5) rfl (by kernel_rfl) (by kernel_rfl) (by kernel_rfl) (by rfl) (fun _ _ _ h => h) (by rfl) (by intro w; go_simp; with_reducible rfl) hU (fun hU => ?_); (try simp only [Act.put, List.setIfInBounds_toArray, List.set_cons_zero, List.set_cons_succ]); refine AnyS.take (i := 6) rfl (by kernel_rfl) (by kernel_rfl) (by kernel_rfl) (by rfl) (fun _ _ _ h => h) (by rfl) (by intro w; go_simp; with_reducible rfl) hU (fun hU => ?_); (try simp only [Act.put, List.setIfInBounds_toArray, List.set_cons_zero, List.set_cons_succ]))
  have ht := (hMd.at 0 rfl).there 0 2 (by simp)
  have hM2 := hMd.setAll 0 rfl (vs := [.string s', .int .i64 (f' : Int)]) rfl
  have HM2 := Lib.hid hM2
  have HB2 : Hid (Blk (Wd.setCells w.heap.size 0 [.string s', .int .i64 (f' : Int)]) sb [.pointer (some ⟨G, 0, none⟩), .slice (some ⟨gp', 0, none⟩) (([] : Pth).length + 1) c', .string s', .int .i64 (f' : Int)] 143) := HBd.out.setsOther hsb _ 0
  clear hMd hM2 HBd
  (refine AnyS.branch (rs := [7]) (by kernel_rfl) (List.cons_ne_nil _ _) ?_; refine AllS.cons rfl ?_ AllS.nil; intro K hK)
  refine ite_of (by kernel_rfl) ?_
  refine wp_st 53 (.tmp 5) (.tmp 27) rfl w.heap.size 0 [.string s', .int .i64 (f' : Int)] rfl rfl ht infoPr (by simp [Value.oneCell']) ?_
  refine hK.out _ _ (.inl HB2.out) (fun hU => ?_)
  clear hK K ht
  (try simp only [Act.put, List.setIfInBounds_toArray, List.set_cons_zero, List.set_cons_succ])
  (refine AnyS.take (i := 8) rfl (by kernel_rfl) (by kernel_rfl) (by kernel_rfl) (by rfl) (fun _ _ _ h => h) (by rfl) (by intro w; go_simp; with_reducible rfl) hU (fun hU => ?_); (try simp only [Act.put, List.setIfInBounds_toArray, List.set_cons_zero, List.set_cons_succ]))
  refine AnyS.done (by kernel_rfl) ?_ _
  clear hU
  go_wp2_with fail
  exact bodyPost_ret (v := .tuple #[.int .i64 (rn : Int), .agg #[.string s', .int .i64 (f' : Int)], .int .i64 (rc : Int)]) (results_mid Try.results70 _ _ w.heap.size 53 #[.string s', .int .i64 (f' : Int)] (0, 0) (.struct _) rfl (HM2.out.at 0 rfl) Try.underlying53 rfl infoPr) rfl ⟨s', f', by rw [HRN.out, HRC.out], HM2.out.below, HINF.out⟩
end Go.Proofs.Yteagecoiijhflaa

/- OrderOf and InfiniteProof of both sides. -/
namespace Go.Proofs.Yteagecoiijhflaa
open Go.RowKit
set_option linter.unusedVariables false
set_option linter.unusedSimpArgs false

/-- OrderOf's answer -/
def ordI (m : Mch) (g : Wd) : Int × Int := match gwsB m [g] with
  | true => ((resN (ordW m g) : Int), (resC (ordW m g) : Int))
  | false => (0, 1)
theorem ordI_ok {m : Mch} {g : Wd} (h : gwsB m [g] = true) : ordI m g = ((resN (ordW m g) : Int), (resC (ordW m g) : Int)) := by rw [ordI, h]
theorem ordI_bad {m : Mch} {g : Wd} (h : gwsB m [g] = false) : ordI m g = (0, 1) := by rw [ordI, h]
def RetP (r : Int × Int) (w : World) (e : Ending) (w' : World) : Prop := e = .returned (.tuple #[.int .i64 r.1, .int .i64 r.2]) ∧ Below w.heap.size w w'

set_option maxRecDepth 100000 in
set_option maxHeartbeats 2000000 in
theorem specOrderOf_any (m : Mch) (hwf : m.Wf) (a : Option Addr) (g : Wd) (c : Nat) (hl : g.length ≤ 1100000) (w : World) (hI : IntsAt w a g) :
    Calls Try.prog 32 #[.agg m.cells.toArray, .slice a g.length c] w (RetP (ordI m g) w) := by
  have hm := MAt.boxed w m 29
  have hb0 := boxedBelow w m.cells.toArray 29
  have HI := Lib.hid hI
  have hsz : (w.alloc (.cells m.cells.toArray 29)).heap.size = w.heap.size + 1 := by simp
  have hS := slII_one (c := c) hI hb0 26
  rw [hsz] at hS
  have HG := Lib.hid (l02Code_any m hwf _ [g] (by simp) (fun i => by
    cases i with
    | zero => simpa using hl
    | succ i => simp) _ hS)
  have hb1 : Below w.heap.size w ((w.alloc (.cells m.cells.toArray 29)).alloc (.cells #[.slice a g.length c] 26)) := hb0.alloc (by omega) _
  have HB1 := Lib.hid hb1
  have HM1 := Lib.hid (hm.keep ((Below.refl _ _).alloc (Nat.le_refl (w.alloc (.cells m.cells.toArray 29)).heap.size) (.cells #[.slice a g.length c] 26)) hwf)
  clear hI hS hb0 hb1 hsz
  go_enter Try.func32, Try.ntmps32
  go_wp2_with ((with_reducible refine ld_mach ?_ (.tmp 2) ?_ (w.heap.size) (0) ?_ m hm hwf ?_); exact rfl; exact rfl; exact rfl)
  refine HG.out.mono ?_
  rintro e w2 ⟨rfl, hb2⟩
  clear HG hm
  have hs1 := HB1.out.size
  have hbb := HB1.out.trans (hb2.mono hs1)
  have hm2 := HM1.out.keep hb2 hwf
  clear hs1 HB1 HM1 hb2
  cases hg : gwsB m [g] with
  | false =>
    have HD := Lib.hid (ordI_bad hg)
    rw [codeG_bad hg]
    clear hg hm2
    go_wp2_with fail
    go_ret2
    rw [HD.out]
    exact ⟨rfl, hbb⟩
  | true =>
    have HD := Lib.hid (ordI_ok hg)
    rw [codeG_ok hg]
    obtain ⟨hok, hgw, h40⟩ := gwsB_row hg (show 0 < [g].length by simp)
    simp only [List.getElem?_cons_zero, Option.getD_some] at hgw h40
    have HSE := Lib.hid (l06Search_any m hwf hok a g c hgw h40 w2 (HI.out.keep hbb))
    clear hg hgw
    go_wp2_with ((with_reducible refine ld_mach ?_ (.tmp 2) ?_ (w.heap.size) (0) ?_ m hm2 hwf ?_); exact rfl; exact rfl; exact rfl)
    refine HSE.out.mono ?_
    rintro e w3 ⟨rfl, hb3⟩
    have hbb3 := (hbb.trans (hb3.mono hbb.size))
    have hz := Blk.new w3 #[.string ⟨#[]⟩, .int .i64 0] 53
    have f0 := hz.free 0
    have f1 := hz.free 1
    have g0 := hz.cell' (i := 0) rfl
    have g1 := hz.cell' (i := 1) rfl
    have HBB : Hid (∀ o, Below w.heap.size w (w3.alloc o)) := fun o => hbb3.alloc hbb3.size o
    generalize resN (ordW m g) = rn at *
    generalize resC (ordW m g) = rc at *
    generalize resS (ordW m g) = rs at *
    generalize resF (ordW m g) = rf at *
    clear HSE hz hbb3 hb3 hm2
    go_wp2_with fail
    go_ret2
    rw [HD.out]
    exact ⟨rfl, HBB.out _⟩

set_option maxRecDepth 100000 in
set_option maxHeartbeats 2000000 in
theorem implOrderOf_any (m : Mch) (hwf : m.Wf) (a : Option Addr) (g : Wd) (c : Nat) (hl : g.length ≤ 1100000) (w : World) (hI : IntsAt w a g) :
    Calls Try.prog 33 #[.agg m.cells.toArray, .slice a g.length c] w (RetP (ordI m g) w) := by
  have hm := MAt.boxed w m 29
  have hb0 := boxedBelow w m.cells.toArray 29
  have HI := Lib.hid hI
  have hsz : (w.alloc (.cells m.cells.toArray 29)).heap.size = w.heap.size + 1 := by simp
  have hS := slII_one (c := c) hI hb0 26
  rw [hsz] at hS
  have HG := Lib.hid (groupOf_any m hwf _ [g] (by simp) (fun i => by
    cases i with
    | zero => simpa using hl
    | succ i => simp) _ hS)
  have hb1 : Below w.heap.size w ((w.alloc (.cells m.cells.toArray 29)).alloc (.cells #[.slice a g.length c] 26)) := hb0.alloc (by omega) _
  have HB1 := Lib.hid hb1
  clear hI hS hb0 hb1 hsz
  go_enter Try.func33, Try.ntmps33
  go_wp2_with ((with_reducible refine ld_mach ?_ (.tmp 2) ?_ (w.heap.size) (0) ?_ m hm hwf ?_); exact rfl; exact rfl; exact rfl)
  refine HG.out.mono ?_
  intro e w2 hR
  clear HG hm
  have hs1 := HB1.out.size
  cases hg : gwsB m [g] with
  | false =>
    rw [hg] at hR
    obtain ⟨rfl, hb2⟩ := hR
    have HD := Lib.hid (ordI_bad hg)
    have hbb := HB1.out.trans (hb2.mono hs1)
    clear hg hs1 HB1
    go_wp2_with fail
    go_ret2
    rw [HD.out]
    exact ⟨rfl, hbb⟩
  | true =>
    rw [hg] at hR
    obtain ⟨G, rfl, hb2, hGr⟩ := hR
    have HD := Lib.hid (ordI_ok hg)
    obtain ⟨hok, hgw, h40⟩ := gwsB_row hg (show 0 < [g].length by simp)
    simp only [List.getElem?_cons_zero, Option.getD_some] at hgw h40
    have hbb := HB1.out.trans (hb2.mono hs1)
    have HSE := Lib.hid (gorder_any m hwf hok G a g c hgw h40 w2 hGr (HI.out.keep hbb))
    clear hs1 HB1 hGr hgw hg
    go_wp2_with fail
    refine HSE.out.mono ?_
    rintro e w3 ⟨rs, rf, rfl, hb3, -⟩
    have hbb3 := (hbb.trans (hb3.mono hbb.size))
    have hz := Blk.new w3 #[.string ⟨#[]⟩, .int .i64 0] 53
    have f0 := hz.free 0
    have f1 := hz.free 1
    have g0 := hz.cell' (i := 0) rfl
    have g1 := hz.cell' (i := 1) rfl
    have HBB : Hid (∀ o, Below w.heap.size w (w3.alloc o)) := fun o => hbb3.alloc hbb3.size o
    generalize resN (ordW m g) = rn at *
    generalize resC (ordW m g) = rc at *
    clear HSE hz hbb3 hb3
    go_wp2_with fail
    go_ret2
    rw [HD.out]
    exact ⟨rfl, HBB.out _⟩
end Go.Proofs.Yteagecoiijhflaa

/- The three closed facts that speak of the whole program, with few signs for the kernel: only the head of the dump's first row is read. -/
namespace Go.Proofs.Yteagecoiijhflaa
open Go

theorem words_app : ∀ (a r : List Char), a.all (· != ' ') = true → wordsSigns (a ++ ' ' :: r) = a :: wordsSigns r
  | [], r, _ => by simp [wordsSigns]
  | c :: a, r, h => by
    simp only [List.all_cons, Bool.and_eq_true, bne_iff_ne, ne_eq] at h
    have ih := words_app a r (by simpa using h.2)
    rw [List.cons_append, wordsSigns, ih]
    exact h.1

theorem list_cut (l p : List Char) (n : Nat) (h : l.take n = p) : l = p ++ l.drop n := by
  rw [← h, List.take_append_drop]

theorem head_words (l t : List Char) (h1 : l.take 77 = "harness".toList ++ ' ' :: (t ++ ' ' :: ("cut".toList ++ [' '])))
    (ht : isSumSigns t = true) (hs : t.all (· != ' ') = true) :
    behindMainWord (wordsSigns l) = "cut".toList :: wordsSigns (l.drop 77) := by
  have e : l = "harness".toList ++ ' ' :: (t ++ ' ' :: ("cut".toList ++ ' ' :: l.drop 77)) := by
    have := list_cut l _ 77 h1
    simpa [List.append_assoc] using this
  have e2 : wordsSigns l = "harness".toList :: t :: "cut".toList :: wordsSigns (l.drop 77) := by
    conv => lhs; rw [e]
    rw [words_app _ _ (by decide), words_app _ _ hs, words_app _ _ (by decide)]
  rw [e2, behindMainWord, ht]
  simp

theorem strip_cut : ∀ (o : List String) (ws : List (List Char)), o.all (fun x => !("cut".toList == x.toList)) = true → stripLifts o ("cut".toList :: ws) = ([], "cut".toList :: ws)
  | [], _, _ => rfl
  | x :: o, ws, h => by
    simp only [List.all_cons, Bool.and_eq_true, Bool.not_eq_true'] at h
    rw [stripLifts, h.1]
    simp only [Bool.false_eq_true, if_false]
    exact strip_cut o ws (by simpa using h.2)

theorem strip_lifts (ws : List (List Char)) : stripLifts liftWords ("cut".toList :: ws) = ([], "cut".toList :: ws) :=
  strip_cut _ _ (by decide +kernel)

theorem lifts_of (P : Program) (ws : List (List Char)) (h : behindMainWord (wordsSigns P.initOrder.toList) = "cut".toList :: ws) :
    P.liftsFinal = false := by
  unfold Program.liftsFinal Program.headLifts
  rw [h, strip_lifts]
  have : ("cut".toList == "carried".toList) = false := by decide +kernel
  simp

theorem make_of (P : Program) (ws : List (List Char)) (h : behindMainWord (wordsSigns P.initOrder.toList) = "cut".toList :: ws) :
    P.make = some .cut := by
  unfold Program.make
  rw [h]
  rfl

theorem enter_of (P : Program) (ws : List (List Char)) (h : behindMainWord (wordsSigns P.initOrder.toList) = "cut".toList :: ws)
    (h1 : P.laysLater = false) (h2 : P.bearsReflect = false) (h3 : P.doorFits [] = true) : P.mayEnter = true := by
  unfold Program.mayEnter
  rw [h]
  simp only [strip_lifts, h1, h2, h3]
  simp

theorem head_cut : behindMainWord (wordsSigns Try.checked.prog.initOrder.toList) = "cut".toList :: wordsSigns (Try.checked.prog.initOrder.toList.drop 77) :=
  head_words _ ((Try.checked.prog.initOrder.toList.drop 8).take 64) (by kernel_rfl) (by kernel_rfl) (by kernel_rfl)

theorem c_lays : Try.checked.prog.laysLater = false := by kernel_rfl
theorem c_refl : Try.checked.prog.bearsReflect = false := by kernel_rfl
theorem c_door : Try.checked.prog.doorFits [] = true := by kernel_rfl

theorem c_enter : Try.checked.prog.mayEnter = true := enter_of _ _ head_cut c_lays c_refl c_door
theorem c_lifts : Try.checked.prog.liftsFinal = false := lifts_of _ _ head_cut
theorem c_make : Try.checked.prog.make = some .cut := make_of _ _ head_cut
end Go.Proofs.Yteagecoiijhflaa

/- A law whose walk ends in 'true' and leaves what was there as it was: from the walk to the row. -/
namespace Go.Proofs.Yteagecoiijhflaa
open Go.ChangeShapes Go.WideShapes Go.ChangeAt Go.RowKit
set_option linter.unusedVariables false

theorem Try.own : ownKnob Try.prog.godebug = none := by kernel_rfl
theorem Try.laidOut : laidOutB Try.prog = true := by kernel_rfl

theorem trodAll_below {H : Type} {enc : TypeId × Value → H} {P : Program} (hl : laidOutB P = true) {W W' : World} (hb : Below W.heap.size W W') :
    ∀ (ts : List TypeId) (vs : List Value) (ds : List (DataW H)) (ps : List MemPlace), (ts.all fun t => P.readableRec t && decide (t < P.types.size)) = true → DataW.TrodAll enc P W 0 (fun _ => true) true ts vs ds ps → (∀ x ∈ ps, x.block < W.heap.size) →
      DataW.TrodAll enc P W' 0 (fun b => decide (b < W.heap.size)) true ts vs ds ps
  | [], vs, ds, ps, _, h, _ => by
    obtain ⟨rfl, rfl, rfl⟩ := trodAll_nil h
    exact trodAll_mk0
  | t :: ts, vs, ds, ps, hr, h, hlt => by
    obtain ⟨v, vs', d, ds', p, q, rfl, rfl, rfl, h1, h2⟩ := trodAll_cons h
    simp only [List.all_cons, Bool.and_eq_true, decide_eq_true_eq] at hr
    exact trodAll_cons_mk (Below.trod hl hr.1.1 hr.1.2 h1 hb fun x hx => hlt x (List.mem_append_left _ hx))
      (trodAll_below hl hb ts vs' ds' q (by simpa using hr.2) h2 fun x hx => hlt x (List.mem_append_right _ hx))

/-- the row's post behind a walk that answers true -/
theorem law_post {H : Type} {enc : TypeId × Value → H} {P : Program} {f : Func} {s : ChangeSpec} {W W' : World} {args : Array Value} {ds gs : List (DataW H)} {before : List MemPlace}
    (hl : laidOutB P = true) (hr : (f.params.toList.all fun t => P.readableRec t && decide (t < P.types.size)) = true) (hW : DataW.Whole enc P f.params.toList s.vars false W args.toList ds gs before) (hv : s.vars = [])
    (h1 : (s.fn H (ds ++ gs)).results = [.lit (.bool true)]) (h2 : (s.fn H (ds ++ gs)).args = ds) (h3 : (s.fn H (ds ++ gs)).vars = []) (hb : Below W.heap.size W W')
    {tb : TypeId} (ht : f.resultTypes = #[tb]) (hu : P.underlying tb = some .bool) :
    s.post enc P f false true false false W args (.bool true) W' := by
  have hW' := hW
  obtain ⟨p, q, hA, hV, rfl, _, _⟩ := hW
  rw [hv] at hV
  obtain ⟨rfl, rfl⟩ := trodVars_none hV
  have hlt : ∀ x ∈ p, x.block < W.heap.size := fun x hx => by simpa using hW'.lt x (by simpa using hx)
  refine ⟨_, _, _, [], p ++ [], [], hW', ?_, ?_, ?_, hb.frame _, fun h => by cases h⟩
  · rw [h1, ht]
    exact trodAll_mk1 (shut_bool hu true)
  · rw [h2, List.append_nil]
    exact trodAll_below hl hb _ _ _ _ hr hA hlt
  · rw [h3, hv]
    rfl

end Go.Proofs.Yteagecoiijhflaa

/- A machine among a law's arguments. -/
namespace Go.Proofs.Yteagecoiijhflaa
open Go.ChangeShapes Go.WideShapes Go.ChangeAt Go.RowKit Go.Joins
set_option linter.unusedVariables false
set_option linter.unusedSimpArgs false

theorem all_ints : ∀ (cs : List Value), (∀ i, i < cs.length → ∃ n : Int, cs[i]? = some (.int .u8 n) ∧ 0 ≤ n ∧ n ≤ 255) → ∃ N : List Int, cs = N.map (Value.int .u8) ∧ N.length = cs.length ∧ ∀ i : Nat, 0 ≤ N[i]?.getD 0 ∧ N[i]?.getD 0 ≤ 255
  | [], _ => ⟨[], rfl, rfl, fun i => by simp⟩
  | c :: cs, h => by
    obtain ⟨N, hN, hl, hb⟩ := all_ints cs (fun i hi => by have := h (i + 1) (by simp; omega); simpa using this)
    obtain ⟨n, hc, h0, h1⟩ := h 0 (by simp)
    simp at hc
    subst hc
    refine ⟨n :: N, by rw [hN]; rfl, by simp [hl], fun i => ?_⟩
    cases i with
    | zero => simp; omega
    | succ i => simpa using hb i

theorem split98 (cs : List Value) (h : cs.length = 98) : cs = cs.take 1 ++ ((cs.drop 1).take 1 ++ ((cs.drop 2).take 48 ++ (cs.drop 50).take 48)) := by
  have e1 : (cs.drop 50).take 48 = cs.drop 50 := List.take_of_length_le (by simp [h])
  have e2 : (cs.drop 2).take 48 ++ cs.drop 50 = cs.drop 2 := by
    have := List.take_append_drop 48 (cs.drop 2)
    rwa [List.drop_drop] at this
  have e3 : (cs.drop 1).take 1 ++ cs.drop 2 = cs.drop 1 := by
    have := List.take_append_drop 1 (cs.drop 1)
    rwa [List.drop_drop] at this
  rw [e1, e2, e3, List.take_append_drop]
section
variable {H : Type} {enc : TypeId × Value → H} {w : World} {base : Nat} {spare : Nat → Bool} {held : Bool}
theorem trod_u8 {n : Nat} {c : List Value} {y : DataW H × List MemPlace} (h : DataW.trod enc Try.prog w base spare held n 5 c = some y) : ∃ k : Int, c = [.int .u8 k] ∧ 0 ≤ k ∧ k ≤ 255 := by
  obtain ⟨k, rfl, _, hw⟩ := DataW.trod_int Try.underlying5 h
  refine ⟨k, rfl, ?_⟩
  simp [Lit.wf, IntKind.min, IntKind.max, IntKind.signed, IntKind.bits] at hw
  omega
theorem trod_some {P : Program} {t : TypeId} {xs : List (DataW H × List MemPlace)} {n i : Nat} {cs : List Value} (h : DataW.trod enc P w base spare held n t cs = xs[i]?) (hi : i < xs.length) : ∃ y, DataW.trod enc P w base spare held n t cs = some y :=
  ⟨xs[i], by rw [h, List.getElem?_eq_getElem hi]⟩
set_option maxRecDepth 100000 in
theorem trod_rows {n : Nat} {cs : List Value} {y : DataW H × List MemPlace} (h : DataW.trod enc Try.prog w base spare held n 23 cs = some y) :
    cs.length = 48 ∧ ∀ i, i < cs.length → ∃ n : Int, cs[i]? = some (.int .u8 n) ∧ 0 ≤ n ∧ n ≤ 255 := by
  have c36 : Try.prog.cellsOf 23 = 48 := by kernel_rfl
  have c35 : Try.prog.cellsOf 22 = 3 := by kernel_rfl
  have c3 : Try.prog.cellsOf 5 = 1 := by kernel_rfl
  obtain ⟨xs, m, rfl, _, hl, hx, hf⟩ := DataW.trod_array Try.underlying23 h
  rw [c36] at hl
  refine ⟨hl, fun i hi => ?_⟩
  obtain ⟨y1, h1⟩ := trod_some (hf (i / 3) (by omega)) (by omega)
  rw [c35] at h1
  obtain ⟨xs', m', rfl, _, hl', hx', hf'⟩ := DataW.trod_array Try.underlying22 h1
  obtain ⟨y2, h2⟩ := trod_some (hf' (i % 3) (by omega)) (by omega)
  rw [c3] at h2
  obtain ⟨k, hk, h0, h255⟩ := trod_u8 h2
  refine ⟨k, ?_, h0, h255⟩
  have := congrArg (fun l : List Value => l[0]?) hk
  simp only [List.getElem?_take, List.getElem?_drop, List.getElem?_cons_zero] at this
  rw [if_pos (by omega), if_pos (by omega)] at this
  have e : i / 3 * 3 + (i % 3 * 1 + 0) = i := by omega
  rw [← this, e]
set_option maxRecDepth 100000 in
theorem mach_of_trod {fuel : Nat} {cs : List Value} {y : DataW H × List MemPlace} (hf : DataW.trod enc Try.prog w base spare held fuel 25 cs = some y) :
    ∃ m : Mch, m.Wf ∧ cs = m.cells := by
  have c38 : Try.prog.cellsOf 25 = 98 := by kernel_rfl
  have c36 : Try.prog.cellsOf 23 = 48 := by kernel_rfl
  have c2 : Try.prog.cellsOf 2 = 1 := by kernel_rfl
  obtain ⟨y0, y1, y2, y3, n, _, hl, h0, h1, h2, h3⟩ := trod_struct4 Try.underlying25 hf
  simp only at h0 h1 h2 h3 hl
  rw [c38] at hl
  rw [c2] at h0 h1
  rw [c36] at h2 h3
  obtain ⟨L, e0, _, wL⟩ := DataW.trod_int Try.underlying2 h0
  obtain ⟨S, e1, _, wS⟩ := DataW.trod_int Try.underlying2 h1
  obtain ⟨lN, hN⟩ := trod_rows h2
  obtain ⟨lO, hO⟩ := trod_rows h3
  obtain ⟨N, eN, nN, bN⟩ := all_ints _ hN
  obtain ⟨O, eO, nO, bO⟩ := all_ints _ hO
  rw [lN] at nN
  rw [lO] at nO
  simp [Lit.wf, IntKind.min, IntKind.max, IntKind.signed, IntKind.bits] at wL wS
  refine ⟨⟨L, S, N, O⟩, ⟨nN, nO, bN, bO, wL, wS⟩, ?_⟩
  rw [split98 cs hl]
  simp only [Mch.cells]
  rw [List.map_append, ← eN, ← eO]
  have e0' : cs.take 1 = [.int .i64 L] := e0
  have e1' : (cs.drop 1).take 1 = [.int .i64 S] := e1
  rw [e0', e1']
  rfl
set_option maxRecDepth 100000 in
theorem open_mach {b0 : Nat} {r : Reach} {v : Value} {d : DataW H} {p : List MemPlace} (hv : Value.okWide Try.prog w r b0 25 v) (h : DataW.Trod enc Try.prog w base spare held 25 v d p) :
    ∃ m : Mch, m.Wf ∧ v = .agg m.cells.toArray := by
  obtain ⟨cs, rfl, hsz⟩ := okWide_struct Try.underlying25 hv
  obtain ⟨fuel, hf⟩ := h
  obtain ⟨cs⟩ := cs
  simp only [Value.cells] at hf
  obtain ⟨m, hw, rfl⟩ := mach_of_trod hf
  exact ⟨m, hw, rfl⟩
end
end Go.Proofs.Yteagecoiijhflaa
