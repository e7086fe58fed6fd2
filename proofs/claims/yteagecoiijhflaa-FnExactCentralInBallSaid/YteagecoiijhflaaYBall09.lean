import Derived.Test.YteagecoiijhflaaYBall08
import Derived.Test.YteagecoiijhflaaYBall04
import Derived.Maps.Own
import Derived.Maps.Views
import Derived.StringKeys
import Derived.Carry
/- The program's group: apply, normal, at, leaves. -/
namespace Go.Proofs.Yteagecoiijhflaa
open Go.RowKit
set_option linter.unusedVariables false
set_option linter.unusedSimpArgs false

theorem on_any (b o : Nat) (m : Mch) (hwf : m.Wf) (hok : m.Ok) (q x : Nat) (hq : q < m.s) (hx : x < m.l) (w : World) (hm : MAt w b o m) :
    Calls Try.prog 133 #[.pointer (some ⟨b, o, none⟩), .int .i64 (q : Int), .int .i64 (x : Int)] w fun e w' => e = .returned (.int .i64 (m.on q x : Int)) ∧ w' = w := by
  have h3 := hok.l_le
  have h16 := hok.s_le
  have := out_any b o m hwf q x (by omega) (by omega) w hm
  rw [Int.toNat_natCast, Int.toNat_natCast, hok.o_eq hwf hq hx] at this
  exact this.mono fun e w' h => ⟨h.1, h.2.symm⟩
theorem nn_any (b o : Nat) (m : Mch) (hwf : m.Wf) (hok : m.Ok) (q x : Nat) (hq : q < m.s) (hx : x < m.l) (w : World) (hm : MAt w b o m) :
    Calls Try.prog 132 #[.pointer (some ⟨b, o, none⟩), .int .i64 (q : Int), .int .i64 (x : Int)] w fun e w' => e = .returned (.int .i64 (m.nn q x : Int)) ∧ w' = w := by
  have h3 := hok.l_le
  have h16 := hok.s_le
  have := next_any b o m hwf q x (by omega) (by omega) w hm
  rw [Int.toNat_natCast, Int.toNat_natCast, hok.n_eq hwf hq hx] at this
  exact this.mono fun e w' h => ⟨h.1, h.2.symm⟩

set_option maxRecDepth 100000 in
set_option maxHeartbeats 1000000 in
theorem apply_any (G : Nat) (m : Mch) (hwf : m.Wf) (hok : m.Ok) (k : Int) (hk : k ≠ 0 ∧ -(m.s : Int) ≤ k ∧ k ≤ m.s) (x : Nat) (hx : x < m.l) (w : World) (hG : GrpR w G m) :
    Calls Try.prog 128 #[.pointer (some ⟨G, 0, none⟩), .int .i64 k, .int .i64 (x : Int)] w (RetQ (.tuple #[.int .i64 (stpX m k x), .int .i64 (stpK m k x)]) w) := by
  have h16 := hok.s_le
  have hq := stN_lt hk
  by_cases h0 : 0 < k
  · obtain ⟨j, hj⟩ : ∃ j : Nat, k = (j : Int) + 1 := ⟨(k - 1).toNat, by omega⟩
    have ej : stN k = j := by simp only [stN]; omega
    have HX : Hid (stpX m k x = m.on j x) := by show _ = _; rw [stpX, if_pos h0, ej]
    have HK : Hid (stpK m k x = (m.nn j x : Int) + 1) := by show _ = _; rw [stpK, if_pos h0, ej]
    rw [ej] at hq
    have hn := hok.nn_lt hwf hq hx
    have HO : Hid (∀ n, Calls Try.prog 133 #[.pointer (some ⟨G, 0, none⟩), .int .i64 (j : Int), .int .i64 (x : Int)] (w.drewN n) fun e w' => e = .returned (.int .i64 (m.on j x : Int)) ∧ w' = w.drewN n) := fun n => on_any G 0 m hwf hok j x hq hx _ (hG.mach.drewN n)
    have HN : Hid (∀ n, Calls Try.prog 132 #[.pointer (some ⟨G, 0, none⟩), .int .i64 (j : Int), .int .i64 (x : Int)] (w.drewN n) fun e w' => e = .returned (.int .i64 (m.nn j x : Int)) ∧ w' = w.drewN n) := fun n => nn_any G 0 m hwf hok j x hq hx _ (hG.mach.drewN n)
    rw [HX.out, HK.out]
    subst hj
    clear hk ej HX HK hG
    generalize m.on j x = Y at *
    generalize m.nn j x = Z at *
    have e1 : IntKind.i64.wrap ((j : Int) + 1 - 1) = (j : Int) := by rw [IntWalk.i64_in _ (by omega)]; omega
    have e2 : IntKind.i64.wrap ((Z : Int) + 1) = (Z : Int) + 1 := by rw [IntWalk.i64_in _ (by omega)]
    go_enter Try.func128, Try.ntmps128
    go_wp2_with fail
    go_quiet ((first | (go_at_call 133; exact Calls.quiet_of_same (HO.out _)) | (go_at_call 132; exact Calls.quiet_of_same (HN.out _))))
    go_wp2_with fail
    go_ret2
    exact retQ1 rfl _
  · obtain ⟨j, hj⟩ : ∃ j : Nat, k = -((j : Int) + 1) := ⟨(-k - 1).toNat, by omega⟩
    have ej : stN k = j := by simp only [stN]; omega
    have HX : Hid (stpX m k x = (invM m).on j x) := by show _ = _; rw [stpX, if_neg h0, ej, invM_on hok (by omega) hx]
    have HK : Hid (stpK m k x = -((invM m).nn j x : Int) - 1) := by show _ = _; rw [stpK, if_neg h0, ej, invM_nn hok (by omega) hx]
    rw [ej] at hq
    have hwi := invM_wf hok hwf
    have hoi := invM_ok hok hwf
    have hn := hoi.nn_lt hwi hq hx
    rw [invM_s] at hn
    have HO : Hid (∀ n, Calls Try.prog 133 #[.pointer (some ⟨G, 98, none⟩), .int .i64 (j : Int), .int .i64 (x : Int)] (w.drewN n) fun e w' => e = .returned (.int .i64 ((invM m).on j x : Int)) ∧ w' = w.drewN n) := fun n => on_any G 98 (invM m) hwi hoi j x hq hx _ (hG.back.drewN n)
    have HN : Hid (∀ n, Calls Try.prog 132 #[.pointer (some ⟨G, 98, none⟩), .int .i64 (j : Int), .int .i64 (x : Int)] (w.drewN n) fun e w' => e = .returned (.int .i64 ((invM m).nn j x : Int)) ∧ w' = w.drewN n) := fun n => nn_any G 98 (invM m) hwi hoi j x hq hx _ (hG.back.drewN n)
    rw [HX.out, HK.out]
    subst hj
    clear hk ej HX HK hG hwi hoi
    generalize (invM m).on j x = Y at *
    generalize (invM m).nn j x = Z at *
    have e1 : IntKind.i64.wrap (-(-((j : Int) + 1))) = (j : Int) + 1 := by rw [IntWalk.i64_in _ (by omega)]; omega
    have e2 : IntKind.i64.wrap ((j : Int) + 1 - 1) = (j : Int) := by rw [IntWalk.i64_in _ (by omega)]; omega
    have e3 : IntKind.i64.wrap (-(Z : Int)) = -(Z : Int) := by rw [IntWalk.i64_in _ (by omega)]
    have e4 : IntKind.i64.wrap (-(Z : Int) - 1) = -(Z : Int) - 1 := by rw [IntWalk.i64_in _ (by omega)]
    go_enter Try.func128, Try.ntmps128
    go_wp2_with fail
    go_quiet ((first | (go_at_call 133; exact Calls.quiet_of_same (HO.out _)) | (go_at_call 132; exact Calls.quiet_of_same (HN.out _))))
    go_wp2_with fail
    go_ret2
    exact retQ1 rfl _

/-- a slice of one's own cut shorter -/
theorem ownsRow_cut {w : World} {B E : Nat} {v : Value} {xs : List Value} {n : Nat} (h : w.ownsRow B E 1 v n xs) {g c k : Nat} (hv : v = .slice (some ⟨g, 0, none⟩) n c) (hk : k ≤ n) : w.ownsRow B E 1 (.slice (some ⟨g, 0, none⟩) k c) k (xs.take k) := by
  have hl := h.1
  rcases h.2 with ⟨e, _⟩ | ⟨g', cap, cur, e, h1, h2, h3, h4, h5, h6⟩
  · rw [hv] at e; cases e
  · rw [hv] at e
    injection e with e1 e2 e3
    injection e1 with e1
    injection e1 with e1
    subst e1 e3
    refine ⟨by rw [List.length_take]; omega, .inr ⟨g, c, cur, rfl, h1, h2, by omega, h4, h5, ?_⟩⟩
    rw [← h6, List.take_take]
    congr 1
    omega
theorem own_cap {w : World} {B E : Nat} {v : Value} {xs : List Value} {n : Nat} (h : w.ownsRow B E 1 v n xs) : ∀ a n' c, v = .slice a n' c → n ≤ c := by
  intro a n' c hv
  rcases h.2 with ⟨e, h0⟩ | ⟨g', cap, cur, e, h1, h2, h3, h4, h5, h6⟩
  · omega
  · rw [hv] at e; injection e with e1 e2 e3; omega
theorem Mm.cut {B : Nat} {w0 w : World} {L : List (Nat × List Value × TypeId)} {v : Value} {E : TypeId} {xs : List Value} {G : List (Value × TypeId × List Value)} (h : Mm B w0 w L ((v, E, xs) :: G)) {g c k : Nat} (hv : v = .slice (some ⟨g, 0, none⟩) xs.length c) (hk : k ≤ xs.length) :
    Mm B w0 w L ((.slice (some ⟨g, 0, none⟩) k c, E, xs.take k) :: G) := by
  have ho := h.own _ (List.mem_cons_self ..)
  have hc := ownsRow_cut ho hv hk
  have hgd := List.pairwise_cons.1 h.gdist
  refine ⟨h.below, h.size, h.blk, h.dist, fun x hx => ?_, fun x hx y hy => ?_, List.pairwise_cons.2 ⟨fun y hy b e => ?_, hgd.2⟩⟩
  · rcases List.mem_cons.1 hx with rfl | hx
    · have : (xs.take k).length = k := by rw [List.length_take]; omega
      simp only [this]
      exact hc
    · exact h.own x (List.mem_cons_of_mem _ hx)
  · rcases List.mem_cons.1 hx with rfl | hx
    · have := h.sep _ (List.mem_cons_self ..) y hy
      rw [hv] at this
      exact this
    · exact h.sep x (List.mem_cons_of_mem _ hx) y hy
  · refine hgd.1 y hy b ?_
    rw [hv]; exact e

set_option maxRecDepth 100000 in
set_option maxHeartbeats 4000000 in
theorem normal_any (G : Nat) (m : Mch) (hwf : m.Wf) (hok : m.Ok) (a : Option Addr) (g : Wd) (c : Nat) (hg : GW m g) (hl : g.length ≤ 1000) (w : World) (hG : GrpR w G m) (hI : IntsAt w a g) :
    Calls Try.prog 98 #[.pointer (some ⟨G, 0, none⟩), .slice a g.length c] w fun e w' => ∃ v, e = .returned v ∧ Below w.heap.size w w' ∧ OwnI w' w.heap.size v (nrm m g) := by
  obtain ⟨i0, hi, hz0, hz1, hz2⟩ := info_parts Try.info2
  have h16 := hok.s_le
  obtain ⟨gc, cc, c1, c2⟩ := hG.cls
  obtain ⟨gt, ct, t1, t2⟩ := hG.trv
  have HC1 := Lib.hid c1
  have HC2 := Lib.hid c2
  have HT1 := Lib.hid t1
  have HT2 := Lib.hid t2
  have HI := Lib.hid hI
  have HGW := Lib.hid hg
  have hM0 := (Mm.start w).addNil 2
  clear hG hI c1 c2 t1 t2 hg
  go_enter Try.func98, Try.ntmps98
  go_wp2_with fail
  go_loopw [5, 13] (fun v i wr => ∃ j : Nat, j ≤ g.length ∧ i = .int .i64 j ∧ Mm w.heap.size w wr [] [(v, 2, i64s (nrm m (g.take j)))]) (fun _ i _ => g.length - (intOf i).toNat)
  case atStart => exact ⟨0, Nat.zero_le _, rfl, by simpa [nrm, i64s] using hM0⟩
  case round =>
    clear hM0
    obtain ⟨j, hj, rfl, hM⟩ := hrel
    by_cases hlt : j < g.length
    · have K : ∀ {b i : Nat} {v : Value}, w.cell? ⟨b, i, none⟩ = some v → wr.cell? ⟨b, i, none⟩ = some v := fun h => (hM.below.cell (World.block_lt_of_cell? w _ h)).trans h
      obtain ⟨b, off, rfl, e1⟩ := HI.out j hlt
      have e1 := K e1
      have hk := HGW.out.at hlt
      have hq := stN_lt hk
      have e2 := K HC1.out
      have e3 := K (HC2.out _ hq)
      have e4 := K HT1.out
      have e5 := K (HT2.out _ hq)
      have HN := Lib.hid (nrm_snoc m (g.take j) (g[j]?.getD 0))
      rw [← take_snocI hlt, nstep] at HN
      have hsg : (g[j]?.getD 0 = (stN (g[j]?.getD 0) : Int) + 1 ∧ nkey m (g[j]?.getD 0) = (m.tbl.fin (stN (g[j]?.getD 0)) : Int) + 1) ∨ (g[j]?.getD 0 = -((stN (g[j]?.getD 0) : Int) + 1) ∧ nkey m (g[j]?.getD 0) = -((m.tbl.fin (stN (g[j]?.getD 0)) : Int) + 1)) := by
        simp only [nkey, stN]
        by_cases h : g[j]?.getD 0 < 0
        · rw [if_pos h]; right; exact ⟨by omega, rfl⟩
        · rw [if_neg h]; left; exact ⟨by omega, rfl⟩
      have hnl := nrm_len m (g.take j)
      rw [List.length_take] at hnl
      have hfl := m.tbl.fin_le (stN (g[j]?.getD 0))
      have i1 : (0 : Int) ≤ (j : Int) := by omega
      have i2 : (j : Int) < (g.length : Int) := by omega
      generalize stN (g[j]?.getD 0) = q at *
      generalize nkey m (g[j]?.getD 0) = nk at *
      generalize g[j]?.getD 0 = k at *
      generalize m.tbl.fin q = f at *
      obtain ⟨o, ho⟩ : ∃ o, o = nrm m (g.take j) := ⟨_, rfl⟩
      rw [← ho] at hM HN hnl
      have i3 : (0 : Int) ≤ (q : Int) := by omega
      have i4 : (q : Int) < (m.s : Int) := by omega
      have i5 : (0 : Int) ≤ (f : Int) := by omega
      have i6 : (f : Int) ≤ 16 := by omega
      clear ho K hk
      by_cases ht : trivB m q = true
      · rw [if_pos ht] at HN
        rw [ht] at e5
        clear ht
        rcases hsg with ⟨rfl, rfl⟩ | ⟨rfl, rfl⟩
        all_goals
          go_wp2_with fail
          go_roundw
          case rel => exact ⟨j + 1, by omega, by go_num, by rw [HN.out]; exact hM⟩
          case measure => simp [intOf] <;> omega
      · rw [if_neg ht] at HN
        have ht' : trivB m q = false := by simpa using ht
        rw [ht'] at e5
        clear ht ht'
        by_cases hz : o = []
        · subst hz
          have HS : Hid (nrm m (g.take (j + 1)) = [nk]) := by show _ = _; rw [HN.out, if_neg (by simp)]; rfl
          have hO := hM.own _ (List.mem_cons_self ..)
          obtain ⟨av, cv, rfl⟩ : ∃ av cv, u5 = .slice av 0 cv := by
            rcases hO.2 with ⟨e, _⟩ | ⟨g', cap, cur, e, _⟩
            · exact ⟨_, _, e⟩
            · exact ⟨_, _, e⟩
          clear HN hO
          rcases hsg with ⟨rfl, rfl⟩ | ⟨rfl, rfl⟩
          all_goals
            go_wp2_with (at_builtin; refine Mm.append rfl (.tmp 59) (.tmp 61) 26 rfl hM 0 rfl Try.underlying26 hi hz0 hz1 hz2 rfl rfl rfl rfl (by simp [i64s]) (by omega) ?_)
            intro g' cap' w3 hM3
            have HM3 : Hid (Mm w.heap.size w w3 [] [(.slice (some ⟨g', 0, none⟩) ((i64s []).length + 1) cap', 2, i64s (nrm m (g.take (j + 1))))]) := by
              rw [HS.out]; show Mm _ _ _ _ _; simpa [i64s] using hM3
            clear hM hM3
            go_wp2_with fail
            go_roundw
            case rel => exact ⟨j + 1, by omega, by go_num, HM3.out⟩
            case measure => simp [intOf] <;> omega
        · obtain ⟨o', z, rfl⟩ : ∃ o' z, o = o' ++ [z] := ⟨o.dropLast, o.getLast hz, (List.dropLast_concat_getLast hz).symm⟩
          have hol : o'.length ≤ 1000 := by rw [List.length_append] at hnl; simp at hnl; omega
          have hO := hM.own _ (List.mem_cons_self ..)
          simp only at hO
          have hcap := own_cap hO
          obtain ⟨gv, cv, rfl, -, -, hcl⟩ := own_form hO (by simp [i64s])
          have hcap : o'.length ≤ cv := by have := hcap _ _ _ rfl; simp [i64s] at this; omega
          have hln : (i64s (o' ++ [z])).length = o'.length + 1 := by simp [i64s]
          rw [hln] at hM ⊢
          have e6 := hcl o'.length (.int .i64 z) (by simp [i64s])
          have hzb : (0 : Int) ≤ (o'.length : Int) := by omega
          clear hcl hO hz
          by_cases hc : z = -nk
          · have HS : Hid (nrm m (g.take (j + 1)) = o') := by show _ = _; rw [HN.out, if_pos (by simp [hc]), List.dropLast_concat]
            have hM2 := hM.cut (g := gv) (c := cv) (k := o'.length) (by rw [hln]) (by simp [i64s])
            have HM2 : Hid (Mm w.heap.size w wr [] [(.slice (some ⟨gv, 0, none⟩) o'.length cv, 2, i64s (nrm m (g.take (j + 1))))]) := by
              rw [HS.out]; show Mm _ _ _ _ _; simpa [i64s] using hM2
            clear HN hM hM2 hln
            subst hc
            rcases hsg with ⟨rfl, rfl⟩ | ⟨rfl, rfl⟩
            all_goals
              go_wp2_with fail
              go_roundw
              case rel => exact ⟨j + 1, by omega, by go_num, HM2.out⟩
              case measure => simp [intOf] <;> omega
          · have HS : Hid (nrm m (g.take (j + 1)) = (o' ++ [z]) ++ [nk]) := by show _ = _; rw [HN.out, if_neg (by simpa using hc)]
            have hc1 : (z == -nk) = false := by simpa using hc
            have hil : (i64s (o' ++ [z])).length ≤ 1000000 := by simp [i64s]; omega
            clear HN hln hc
            rcases hsg with ⟨rfl, rfl⟩ | ⟨rfl, rfl⟩
            all_goals
              try simp only [Int.neg_neg] at hc1
              go_wp2_with (at_builtin; refine Mm.append rfl (.tmp 59) (.tmp 61) 26 rfl hM 0 rfl Try.underlying26 hi hz0 hz1 hz2 rfl rfl rfl rfl hil (by omega) ?_)
              intro g' cap' w3 hM3
              have HM3 : Hid (Mm w.heap.size w w3 [] [(.slice (some ⟨g', 0, none⟩) ((i64s (o' ++ [z])).length + 1) cap', 2, i64s (nrm m (g.take (j + 1))))]) := by
                rw [HS.out]; show Mm _ _ _ _ _; simpa [i64s] using hM3
              clear hM hM3
              go_wp2_with fail
              go_roundw
              case rel => exact ⟨j + 1, by omega, by go_num, HM3.out⟩
              case measure => simp [intOf] <;> omega
    · have hj' : j = g.length := by omega
      subst hj'
      rw [List.take_length] at hM
      have ho : Hid (OwnI wr w.heap.size u5 (nrm m g)) := OwnI.of_row (hM.own _ (List.mem_cons_self ..))
      have hb := hM.below
      clear hM
      go_wp2_with fail
      go_ret
      exact ⟨_, rfl, hb, ho.out⟩
end Go.Proofs.Yteagecoiijhflaa

/- The program's group: at, leaves, key. -/
namespace Go.Proofs.Yteagecoiijhflaa
open Go.RowKit
set_option linter.unusedVariables false
set_option linter.unusedSimpArgs false

/-- the section as far as it is made -/
def ldP (m : Mch) (g : Wd) (x j : Nat) : Wd := ledS m (g.take j) x ++ List.replicate (g.length - j) 0
theorem ldP_len (m : Mch) (g : Wd) (x j : Nat) (h : j ≤ g.length) : (ldP m g x j).length = g.length := by simp [ldP, ledS_len]; omega
theorem ldP_zero (m : Mch) (g : Wd) (x : Nat) : ldP m g x 0 = List.replicate g.length 0 := by simp [ldP, ledS]
theorem ldP_all (m : Mch) (g : Wd) (x : Nat) : ldP m g x g.length = ledS m g x := by simp [ldP]
theorem ldP_set (m : Mch) (g : Wd) (x j : Nat) (h : j < g.length) : (i64s (ldP m g x j)).set j (.int .i64 (stpK m (g[j]?.getD 0) (ledX m (g.take j) x))) = i64s (ldP m g x (j + 1)) := by
  have hl : (ledS m (g.take j) x).length = j := by rw [ledS_len, List.length_take]; omega
  simp only [ldP, i64s, take_snocI h, ledS_append, List.map_append]
  rw [List.set_append_right _ _ (by rw [List.length_map, hl]; omega), List.append_assoc]
  congr 1
  rw [List.length_map, hl, Nat.sub_self, show g.length - j = (g.length - (j + 1)) + 1 by omega, List.replicate_succ, List.map_cons, List.set_cons_zero]
  rfl
theorem ledX_take (m : Mch) (g : Wd) (x j : Nat) (h : j < g.length) : ledX m (g.take (j + 1)) x = stpX m (g[j]?.getD 0) (ledX m (g.take j) x) := by
  rw [take_snocI h, ledX_append]; rfl

set_option maxRecDepth 100000 in
set_option maxHeartbeats 4000000 in
theorem at_any (G : Nat) (m : Mch) (hwf : m.Wf) (hok : m.Ok) (a : Option Addr) (g : Wd) (c : Nat) (hg : GW m g) (hl : g.length ≤ 1000) (x : Nat) (hx : x < m.l) (w : World) (hG : GrpR w G m) (hI : IntsAt w a g) :
    Calls Try.prog 96 #[.pointer (some ⟨G, 0, none⟩), .slice a g.length c, .int .i64 (x : Int)] w fun e w' => ∃ v, e = .returned (.tuple #[.int .i64 (ledX m g x : Int), v]) ∧ Below w.heap.size w w' ∧ OwnI w' w.heap.size v (ledS m g x) := by
  have h16 := hok.s_le
  have HG := Lib.hid hG
  have HI := Lib.hid hI
  have HGW := Lib.hid hg
  have hmk := mkI g.length (by omega) w
  have hM0 := (Mm.start w).alloc (madeCells #[.int .i64 0] g.length) 2
  rw [madeI, ← ldP_zero m g x] at hM0
  clear hG hI hg
  go_enter Try.func96, Try.ntmps96
  go_wp2_with fail
  clear hmk
  go_loopw [2, 16] (fun y i wr => ∃ j : Nat, j ≤ g.length ∧ i = .int .i64 j ∧ y = .int .i64 (ledX m (g.take j) x : Int) ∧ Mm w.heap.size w wr [(w.heap.size, i64s (ldP m g x j), 2)] []) (fun _ i _ => g.length - (intOf i).toNat)
  case atStart => exact ⟨0, Nat.zero_le _, rfl, rfl, hM0⟩
  case round =>
    clear hM0
    obtain ⟨j, hj, rfl, rfl, hM⟩ := hrel
    by_cases hlt : j < g.length
    · obtain ⟨b, off, rfl, e1⟩ := HI.out j hlt
      have e1 := (hM.below.cell (World.block_lt_of_cell? w _ e1)).trans e1
      have hk := HGW.out.at hlt
      have hB := hM.at 0 rfl
      have c1 := hB.cell' (i64s_get (xs := ldP m g x j) (i := j) (by rw [ldP_len m g x j (by omega)]; exact hlt))
      have f1 := hB.free j
      have hy : ledX m (g.take j) x < m.l := ledX_lt hok hwf (HGW.out.sub fun k hk => List.mem_of_mem_take hk) hx
      have HSET : Hid (∀ n, Mm w.heap.size w ((wr.drewN n).setCell ⟨w.heap.size, j, none⟩ (.int .i64 (stpK m (g[j]?.getD 0) (ledX m (g.take j) x)))) [(w.heap.size, i64s (ldP m g x (j + 1)), 2)] []) := fun n => by
        have := (hM.drewN n).setCell 0 rfl j (.int .i64 (stpK m (g[j]?.getD 0) (ledX m (g.take j) x)))
        simpa only [List.set_cons_zero, ldP_set m g x j hlt] using this
      have HX := Lib.hid (ledX_take m g x j hlt)
      have HAP := Lib.hid (apply_any G m hwf hok (g[j]?.getD 0) hk (ledX m (g.take j) x) hy wr (HG.out.keep hM.below))
      have i1 : (0 : Int) ≤ (j : Int) := by omega
      have i2 : (j : Int) < (g.length : Int) := by omega
      clear hM hB hk hy
      generalize (ldP m g x j)[j]?.getD 0 = z at *
      generalize g[j]?.getD 0 = k at *
      generalize ledX m (g.take j) x = y at *
      go_wp2_with fail
      refine HAP.out.mono ?_
      rintro e w1 ⟨rfl, n, rfl⟩
      have HS := Lib.hid (HSET.out n)
      clear HSET HAP e1
      go_wp2_with fail
      go_roundw
      case rel => exact ⟨j + 1, by omega, by go_num, by rw [HX.out], HS.out⟩
      case measure => simp [intOf] <;> omega
    · have hj' : j = g.length := by omega
      subst hj'
      rw [ldP_all] at hM
      have hF := Lib.hid (hM.addOwn (List.mem_singleton.2 rfl) g.length (by simp [i64s, ledS_len]) (by omega))
      have HT : Hid (g.take g.length = g) := List.take_length
      clear hM
      go_wp2_with fail
      go_ret2
      rw [HT.out]
      exact ⟨_, rfl, hF.out.below, OwnI.of_row (by simpa [i64s, ledS_len] using hF.out.own _ (List.mem_cons_self ..))⟩
theorem leaves_upto {m : Mch} {g : Wd} {x : Nat} (h : ∀ y, y < x → ledX m g y = y) (hx : x = m.l) : leavesB m g = true := by
  subst hx
  simp only [leavesB, List.all_eq_true, List.mem_range, beq_iff_eq]
  exact h
theorem leaves_not {m : Mch} {g : Wd} {x : Nat} (hx : x < m.l) (h : ledX m g x ≠ x) : leavesB m g = false := by
  rw [leavesB, List.all_eq_false]
  exact ⟨x, by simpa using hx, by simpa using h⟩

set_option maxRecDepth 100000 in
set_option maxHeartbeats 1000000 in
theorem leaves_any (G : Nat) (m : Mch) (hwf : m.Wf) (hok : m.Ok) (a : Option Addr) (g : Wd) (c : Nat) (hg : GW m g) (hl : g.length ≤ 1000) (w : World) (hG : GrpR w G m) (hI : IntsAt w a g) :
    Calls Try.prog 101 #[.pointer (some ⟨G, 0, none⟩), .slice a g.length c] w (Ret (.bool (leavesB m g)) w) := by
  have HG := Lib.hid hG
  have HI := Lib.hid hI
  have cl := hG.mach.l
  rw [hok.L_eq] at cl
  have h3 := hok.l_le
  have HGW := Lib.hid hg
  clear hG hI hg
  go_enter Try.func101, Try.ntmps101
  go_wp2_with fail
  go_loopw [13] (fun i wr => ∃ x : Nat, x ≤ m.l ∧ i = .int .i64 x ∧ Below w.heap.size w wr ∧ Hid (∀ y, y < x → ledX m g y = y)) (fun i _ => m.l - (intOf i).toNat)
  case atStart => exact ⟨0, Nat.zero_le _, rfl, Below.refl _ _, fun y hy => by omega⟩
  case round =>
    clear cl
    obtain ⟨x, hx, rfl, hb, HA⟩ := hrel
    by_cases hlt : x < m.l
    · have HC := Lib.hid (at_any G m hwf hok a g c HGW.out hl x hlt wr (HG.out.keep hb) (HI.out.keep hb))
      have i1 : (x : Int) < (m.l : Int) := by omega
      go_wp2_with fail
      refine HC.out.mono ?_
      rintro e w1 ⟨v, rfl, hb1, -⟩
      have hbb := hb.trans (hb1.mono hb.size)
      by_cases e : ledX m g x = x
      · have HN : Hid (∀ y, y < x + 1 → ledX m g y = y) := fun y hy => by
          by_cases h : y = x
          · subst h; exact e
          · exact HA.out y (by omega)
        rw [e]
        clear e HC
        go_wp2_with fail
        go_roundw
        case rel => exact ⟨x + 1, by omega, by go_num, hbb, HN⟩
        case measure => simp [intOf] <;> omega
      · have HF := Lib.hid (leaves_not hlt e)
        generalize ledX m g x = y at *
        have e' : ((y : Int) != (x : Int)) = true := by simp; omega
        clear e HC
        go_wp2_with fail
        go_ret
        exact ⟨ret_bool HF.out.symm, hbb⟩
    · have HF := Lib.hid (leaves_upto HA.out (by omega))
      go_wp2_with fail
      go_ret
      exact ⟨ret_bool HF.out.symm, hb⟩

/-- the key of a word -/
def keyB (g : Wd) : ByteArray := strOfNums (g.map fun k => k + 100)
theorem keyB_size (g : Wd) : (keyB g).size = g.length := by simp [keyB, strOfNums_size]
theorem keyB_inj {m : Mch} (hok : m.Ok) : ∀ {g h : Wd}, GW m g → GW m h → keyB g = keyB h → g = h := by
  have h16 := hok.s_le
  have key : ∀ {g h : Wd}, GW m g → GW m h → g.map (fun k => UInt8.ofNat (k + 100).toNat) = h.map (fun k => UInt8.ofNat (k + 100).toNat) → g = h := by
    intro g
    induction g with
    | nil => intro h _ _ e; cases h with | nil => rfl | cons y t => simp at e
    | cons x g ih =>
      intro h hg hh e
      cases h with
      | nil => simp at e
      | cons y t =>
        simp only [List.map_cons, List.cons.injEq] at e
        have a := hg x (List.mem_cons_self ..)
        have b := hh y (List.mem_cons_self ..)
        have e1 := congrArg UInt8.toNat e.1
        rw [UInt8.toNat_ofNat', UInt8.toNat_ofNat'] at e1
        have e2 := ih (fun z hz => hg z (List.mem_cons_of_mem _ hz)) (fun z hz => hh z (List.mem_cons_of_mem _ hz)) e.2
        have e3 : x = y := by omega
        rw [e2, e3]
  intro g h hg hh e
  have := congrArg (fun s : ByteArray => s.data.toList) e
  simp only [keyB, strOfNums_data, List.map_map] at this
  exact key hg hh this
def kyP (g : Wd) (j : Nat) : List Int := (g.take j).map (fun k => k + 100) ++ List.replicate (g.length - j) 0
theorem kyP_set (g : Wd) (j : Nat) (h : j < g.length) : (u8s (kyP g j)).set j (.int .u8 (g[j]?.getD 0 + 100)) = u8s (kyP g (j + 1)) := by
  have hl : ((g.take j).map (fun k => k + 100)).length = j := by rw [List.length_map, List.length_take]; omega
  simp only [kyP, u8s, take_snocI h, List.map_append]
  rw [List.set_append_right _ _ (by rw [List.length_map, hl]; omega), List.append_assoc]
  congr 1
  rw [List.length_map, hl, Nat.sub_self, show g.length - j = (g.length - (j + 1)) + 1 by omega, List.replicate_succ, List.map_cons, List.set_cons_zero]
  rfl

set_option maxRecDepth 100000 in
set_option maxHeartbeats 1000000 in
theorem key_any (m : Mch) (hok : m.Ok) (a : Option Addr) (g : Wd) (c : Nat) (hg : GW m g) (hl : g.length ≤ 1000) (w : World) (hI : IntsAt w a g) :
    Calls Try.prog 131 #[.slice a g.length c] w (Ret (.string (keyB g)) w) := by
  have HI := Lib.hid hI
  have HGW := Lib.hid hg
  have h16 := hok.s_le
  have hmk := mk_u8 g.length (by omega) w
  have hM0 := (Mm.start w).alloc (madeCells #[.int .u8 0] g.length) 5
  rw [made_u8, show List.replicate g.length (0 : Int) = kyP g 0 by simp [kyP]] at hM0
  clear hI hg
  go_enter Try.func131, Try.ntmps131
  go_wp2_with fail
  clear hmk
  go_loopw [11] (fun i wr => ∃ j : Nat, j ≤ g.length ∧ i = .int .i64 j ∧ Mm w.heap.size w wr [(w.heap.size, u8s (kyP g j), 5)] []) (fun i _ => g.length - (intOf i).toNat)
  case atStart => exact ⟨0, Nat.zero_le _, rfl, hM0⟩
  case round =>
    clear hM0
    obtain ⟨j, hj, rfl, hM⟩ := hrel
    by_cases hlt : j < g.length
    · obtain ⟨b, off, rfl, e1⟩ := HI.out j hlt
      have e1 := (hM.below.cell (World.block_lt_of_cell? w _ e1)).trans e1
      have hk := HGW.out.at hlt
      have hB := hM.at 0 rfl
      have c1 := hB.cell' (u8s_get (xs := kyP g j) (i := j) (by simp [kyP]; omega))
      have f1 := hB.free j
      have hS := hM.setCell 0 rfl j (.int .u8 (g[j]?.getD 0 + 100))
      simp only [List.set_cons_zero, kyP_set g j hlt] at hS
      have HS := Lib.hid hS
      have i1 : (0 : Int) ≤ (j : Int) := by omega
      have i2 : (j : Int) < (g.length : Int) := by omega
      have i3 := hk.2.1
      have i4 := hk.2.2
      clear hM hB hk hS
      generalize (kyP g j)[j]?.getD 0 = z at *
      generalize g[j]?.getD 0 = k at *
      have i5 : -16 ≤ k := by omega
      have i6 : k ≤ 16 := by omega
      go_wp2_with fail
      go_roundw
      case rel => exact ⟨j + 1, by omega, by go_num, HS.out⟩
      case measure => simp [intOf] <;> omega
    · have hj' : j = g.length := by omega
      subst hj'
      rw [show kyP g g.length = g.map (fun k => k + 100) by simp [kyP]] at hM
      have hcv := run_convert_bytes_arg wr 106 5 Try.underlying106 Try.underlying5 w.heap.size 0 g.length g.length (g.map fun k => k + 100) (by simp) (fun i hi => by
        rw [Nat.zero_add]; exact (hM.at 0 rfl).cell' (u8s_get (by simpa using hi))) 9 Try.underlying9
      have hb := hM.below
      clear hM
      go_wp2_with fail
      go_ret
      exact ⟨rfl, hb⟩
end Go.Proofs.Yteagecoiijhflaa

/- A map of strings to numbers beside memory of one's own; the places of a queue. -/
namespace Go.Proofs.Yteagecoiijhflaa
open Go.RowKit
set_option linter.unusedVariables false
set_option linter.unusedSimpArgs false
set_option linter.unusedSectionVars false

/-- block b is a map of at most n entries that reads as f -/
def MapN (w : World) (b n : Nat) (f : ByteArray → Option Nat) : Prop :=
  ∃ D : DataW Unit, Maps.IsMap D ∧ w.ownsMap Try.prog 9 (plainElem Try.prog 2) b n D ∧
    ∀ s, match f s with | none => ∀ z, D.atKey (.string s.data.toList) z = z | some t => ∀ z, D.atKey (.string s.data.toList) z = .lit (.int .i64 (t : Int))
theorem litN_ne {s t : ByteArray} (h : s ≠ t) : Lit.string s.data.toList ≠ Lit.string t.data.toList := fun e => h (by
  injection e with e
  exact ByteArray.ext (Array.toList_inj.1 e))
theorem zeroN (w : World) : (zeroValue 2).run Try.prog w = .ok (.int .i64 0) w := by kernel_rfl
theorem plainN_inv {P : Program} {e : TypeId} (hu : P.underlying e = some (.int .i64)) {v : Value} {t : Int} {ps : List MemPlace} (h : plainElem (H := Unit) P e v = some (.lit (.int .i64 t), ps)) : v = .int .i64 t := by
  unfold plainElem at h
  rw [hu] at h
  cases v <;> simp only [reduceCtorEq] at h
  split at h
  · simp only [Option.some.injEq, Prod.mk.injEq, DataW.lit.injEq, Lit.int.injEq] at h
    rename_i hh
    rw [hh.1, h.1.2]
  · cases h
theorem MapN.new (w : World) : MapN (w.alloc (.map #[] 0)) w.heap.size 0 (fun _ => none) :=
  ⟨.map [], Maps.isMap_empty, World.ownsMap_made w _ _ _, fun s z => rfl⟩
theorem MapN.lt {w : World} {b n : Nat} {f : ByteArray → Option Nat} (h : MapN w b n f) : b < w.heap.size := by
  obtain ⟨D, _, h2, _⟩ := h
  exact h2.lt
theorem MapN.kept {w w' : World} {b n : Nat} {f : ByteArray → Option Nat} (h : MapN w b n f) (e : w'.heap[b]? = w.heap[b]?) : MapN w' b n f := by
  obtain ⟨D, h1, ⟨es, clock, hb, F, hs, hD⟩, h3⟩ := h
  exact ⟨D, h1, ⟨es, clock, e.trans hb, F, hs, hD⟩, h3⟩
theorem MapN.below {w w' : World} {b n C : Nat} {f : ByteArray → Option Nat} (h : MapN w b n f) (hb : Below C w w') (hC : b < C) : MapN w' b n f := h.kept (hb.block b hC)
theorem MapN.look {w : World} {b n : Nat} {f : ByteArray → Option Nat} (h : MapN w b n f) (s : ByteArray) (hs : s.size ≤ maxLen) (c : Bool) :
    (Instr.lookup 164 (.map (some b)) (.string s) c).run Try.prog w = .ok (if c then .tuple #[.int .i64 (((f s).getD 0 : Nat) : Int), .bool (f s).isSome] else .int .i64 (((f s).getD 0 : Nat) : Int)) w := by
  obtain ⟨D, h1, ⟨es, clock, hb, F, hsz, hD⟩, h3⟩ := h
  have h4 := h3 s
  rw [hD] at h4
  rcases Maps.fit_look c (Maps.string_keyed Try.underlying9) Try.underlying164 (zeroN w) hb F (WideMaps.keyOf_string_mk Try.underlying9 hs) with ⟨hrun, _, hat⟩ | ⟨e0, y, _, _, hrun, hRv, hat, _⟩
  · cases hf : f s with
    | none => rw [hrun]; rfl
    | some t =>
      rw [hf] at h4
      have e1 := h4 (.lit (.bool true))
      rw [hat] at e1
      cases e1
  · cases hf : f s with
    | none =>
      rw [hf] at h4
      have e1 := (h4 (.lit (.bool true))).symm.trans (hat _)
      have e2 := (h4 (.lit (.bool false))).symm.trans (hat _)
      have := e1.trans e2.symm
      cases this
    | some t =>
      rw [hf] at h4
      have e1 := (hat (.lit (.bool true))).symm.trans (h4 _)
      obtain ⟨y1, y2⟩ := y
      simp only at e1
      subst e1
      rw [hrun, plainN_inv Try.underlying2 hRv]
      cases c <;> rfl
theorem MapN.put {w : World} {b n : Nat} {f : ByteArray → Option Nat} (h : MapN w b n f) (hn : n ≤ 100000) (s : ByteArray) (t : Nat) (hs : s.size ≤ maxLen) (ht : t ≤ 100000) :
    ∃ w', (Instr.mapUpdate 164 (.map (some b)) (.string s) (.int .i64 (t : Int))).run Try.prog w = .ok () w' ∧ MapN w' b (n + 1) (fun x => if x = s then some t else f x) ∧ w.grownBy w' (some b) := by
  obtain ⟨D, h1, h2, h3⟩ := h
  have hwf : (Lit.int .i64 (t : Int)).wf = true := by
    have h1 : (0 : Int) ≤ (t : Int) := by omega
    have h2 : (t : Int) ≤ 100000 := by omega
    generalize (t : Int) = T at *
    simp [Lit.wf, IntKind.min, IntKind.max, IntKind.signed, IntKind.bits]; omega
  obtain ⟨w', hrun, ho, hg⟩ := h2.update (Maps.string_keyed Try.underlying9) Try.underlying164 (by simp [maxLen]; omega) (WideMaps.keyOf_string_mk Try.underlying9 hs) (plainElem_int Try.underlying2 hwf)
  refine ⟨w', hrun, ⟨_, ?_, ho, fun x => ?_⟩, hg⟩
  · obtain ⟨es, rfl⟩ := h1
    exact ⟨_, rfl⟩
  · by_cases e : x = s
    · subst e
      simp only [if_true]
      exact fun z => Maps.atKey_put_same h1 ((Maps.string_keyed Try.underlying9).key (WideMaps.keyOf_string_mk Try.underlying9 hs)) _ _
    · simp only [if_neg e]
      have h4 := h3 x
      cases hf : f x with
      | none =>
        rw [hf] at h4
        exact fun z => (Maps.atKey_put_other (litN_ne e) _ _).trans (h4 z)
      | some u =>
        rw [hf] at h4
        exact fun z => (Maps.atKey_put_other (litN_ne e) _ _).trans (h4 z)

/-- memory of one's own, a map of one's own among it -/
structure MQ (B : Nat) (w0 w : World) (G : List (Value × TypeId × List Value)) (b n : Nat) (f : ByteArray → Option Nat) : Prop where
  mm : Mm B w0 w [] G
  map : MapN w b n f
  lo : B ≤ b
  sep : ∀ x ∈ G, x.1.ownBlock ≠ some b
section
variable {B : Nat} {w0 w : World} {G : List (Value × TypeId × List Value)} {b n : Nat} {f : ByteArray → Option Nat}
theorem MQ.call (h : MQ B w0 w G b n f) {w' : World} (hb : Below w.heap.size w w') : MQ B w0 w' G b n f := ⟨h.mm.call hb, h.map.below hb h.map.lt, h.lo, h.sep⟩
theorem MQ.callOwn (h : MQ B w0 w G b n f) {w' : World} (hb : Below w.heap.size w w') {v : Value} {E : TypeId} {k : Nat} {xs : List Value} (ho : w'.ownsRow w.heap.size E 1 v k xs) (hn : k = xs.length) : MQ B w0 w' ((v, E, xs) :: G) b n f := by
  refine ⟨h.mm.callOwn hb ho hn, h.map.below hb h.map.lt, h.lo, fun x hx => ?_⟩
  rcases List.mem_cons.1 hx with rfl | hx
  · intro e
    have h1 := (World.ownsRow.lt ho b e).1
    have h2 := h.map.lt
    omega
  · exact h.sep x hx
theorem MQ.addNil (h : MQ B w0 w G b n f) (E : TypeId) : MQ B w0 w ((.slice none 0 0, E, []) :: G) b n f := by
  refine ⟨h.mm.addNil E, h.map, h.lo, fun x hx => ?_⟩
  rcases List.mem_cons.1 hx with rfl | hx
  · simp [Value.ownBlock]
  · exact h.sep x hx
theorem MQ.perm (h : MQ B w0 w G b n f) {G' : List (Value × TypeId × List Value)} (hp : G.Perm G') : MQ B w0 w G' b n f := ⟨h.mm.permG hp, h.map, h.lo, fun x hx => h.sep x (hp.mem_iff.2 hx)⟩
theorem MQ.sub (h : MQ B w0 w G b n f) {G' : List (Value × TypeId × List Value)} (hs : G'.Sublist G) : MQ B w0 w G' b n f := ⟨h.mm.subG hs, h.map, h.lo, fun x hx => h.sep x (hs.subset hx)⟩
/-- a write into the map alone -/
theorem Mm.beside (h : Mm B w0 w [] G) {w' : World} (hg : w.grownBy w' (some b)) (hB : B ≤ b) (hs : ∀ x ∈ G, x.1.ownBlock ≠ some b) : Mm B w0 w' [] G := by
  refine ⟨⟨hg.os.trans h.below.os, hg.tape.trans h.below.tape, hg.output.trans h.below.output, Nat.le_trans h.below.size hg.size, fun k hk => ?_⟩, Nat.le_trans h.size hg.size, fun x hx => (by cases hx), List.Pairwise.nil, fun x hx => ?_, fun x hx y hy => (by cases hy), h.gdist⟩
  · have := h.size
    exact (hg.block k (by omega) (by intro e; injection e with e; omega)).trans (h.below.block k hk)
  · have ho := h.own x hx
    refine ⟨ho.1, ?_⟩
    rcases ho.2 with hn | ⟨g, cap, cur, hv, h1, h2, rest⟩
    · exact .inl hn
    · have hlt := h.ownlt hx (by rw [hv]; rfl : x.1.ownBlock = some g)
      refine .inr ⟨g, cap, cur, hv, h1, (hg.block g hlt ?_).trans h2, rest⟩
      intro e
      injection e with e
      exact hs x hx (by rw [hv, e]; rfl)
theorem MQ.put (h : MQ B w0 w G b n f) (hn : n ≤ 100000) (s : ByteArray) (t : Nat) (hs : s.size ≤ maxLen) (ht : t ≤ 100000) :
    ∃ w', (Instr.mapUpdate 164 (.map (some b)) (.string s) (.int .i64 (t : Int))).run Try.prog w = .ok () w' ∧ MQ B w0 w' G b (n + 1) (fun x => if x = s then some t else f x) := by
  obtain ⟨w', hrun, hm, hg⟩ := h.map.put hn s t hs ht
  exact ⟨w', hrun, h.mm.beside hg h.lo h.sep, hm, h.lo, h.sep⟩
/-- 'out = append(out, u)', u of one cell, to the slice number i -/
theorem MQ.append {P : Program} {ops : Array Oper} {rest : List Oper} {o : Oper} {a : Act} {Q : Exit → Act → World → Prop} (hgd : o.guard = none) (s x : Operand) (t : TypeId)
    (ho : o.op = .call { callee := .builtin .append, args := #[s, x], argTypes := #[t, t] })
    (h : MQ B w0 w G b n f) (i : Nat) {v : Value} {E : TypeId} {xs : List Value} (hi : G[i]? = some (v, E, xs)) {i0 : TypeInfo} {z : Value} {bytes : Nat} (ht : P.underlying t = some (.slice E)) (hI : P.info? E = some i0) (hz : i0.zero = some z)
    (hsize : i0.size = 1) (hby : i0.bytes = bytes) (hzs : z.cells.size = 1) {u : Value} (hs : a.eval s = v) (hx : a.eval x = .slice (some ⟨w.heap.size, 0, none⟩) 1 1) (hu : u.oneCell' = true)
    (hlen : xs.length ≤ 1000000) (hbytes : bytes ≤ 1000)
    (hk : ∀ g cap w', MQ B w0 w' (G.set i (.slice (some ⟨g, 0, none⟩) (xs.length + 1) cap, E, xs ++ [u])) b n f → wpList P ops Q rest (a.put o.dst (.slice (some ⟨g, 0, none⟩) (xs.length + 1) cap)) w') :
    wpList P ops Q (o :: rest) a (w.alloc (.cells #[u] E)) := by
  refine wpList_append_lies _ hgd s x t ho B E i0 z 1 bytes ht hI hz hsize hby hzs (by decide) v xs.length xs hs (World.ownsRow.alloc (h.mm.own _ (mem_of_get hi)) _) ⟨w.heap.size, 0, none⟩ 1 1 [u] hx rfl ?_ ?_ (by omega) ?_ ?_ ?_ _ rfl ?_
  · intro j y hj
    have hb := Blk.new w #[u] E
    have hadd : (⟨w.heap.size, 0, none⟩ : Addr).add j = ⟨w.heap.size, j, none⟩ := by unfold Addr.add; split <;> simp_all
    rw [hadd]
    exact hb.cell' hj
  · intro y hy
    rw [List.mem_singleton] at hy
    rw [hy]; exact hu
  · simp [maxLen]; omega
  · calc (xs.length + 1) * bytes ≤ 1000001 * 1000 := Nat.mul_le_mul (by omega) hbytes
      _ ≤ _ := by omega
  · have := h.mm.size; simp; omega
  · intro g cap w' hown hgrow hlies hlt
    have hbl := h.map.lt
    have hne := h.sep _ (mem_of_get hi)
    have hs : (w.alloc (.cells #[u] E)).heap.size = w.heap.size + 1 := by simp
    refine hk g cap w' ⟨h.mm.grow i hi _ rfl hown hgrow hlies, h.map.kept ?_, h.lo, fun y hy => ?_⟩
    · exact (hgrow.block b (by omega) (Ne.symm hne)).trans (Below.heap_alloc w _ b hbl)
    · rcases mem_set_of hy with rfl | ⟨j, hj, hy⟩
      · simp only [Value.ownBlock]
        intro e
        injection e with e
        rcases hlies with h' | h'
        · exact hne (by rw [h', e])
        · omega
      · exact h.sep y (mem_of_get hy)
end

/-- the places of a queue, by the keys -/
def fQ : List Wd → ByteArray → Option Nat
  | [], _ => none
  | h :: t, x => if keyB h = x then some 0 else (fQ t x).map (· + 1)
theorem fQ_mem {m : Mch} (hok : m.Ok) {s : Wd} (hs : GW m s) : ∀ {Q : List Wd}, (∀ h ∈ Q, GW m h) → s ∈ Q → fQ Q (keyB s) = some (Q.idxOf s)
  | [], _, h => by cases h
  | h :: t, hq, hm => by
    by_cases e : h = s
    · subst e; simp [fQ]
    · have hne : ¬ keyB h = keyB s := fun k => e (keyB_inj hok (hq h (List.mem_cons_self ..)) hs k)
      have hm' : s ∈ t := by
        rcases List.mem_cons.1 hm with k | k
        · exact absurd k.symm e
        · exact k
      rw [fQ, if_neg hne, fQ_mem hok hs (fun x hx => hq x (List.mem_cons_of_mem _ hx)) hm', List.idxOf_cons]
      rw [show (h == s) = false from by simpa using e]; rfl
theorem fQ_not {m : Mch} (hok : m.Ok) {s : Wd} (hs : GW m s) : ∀ {Q : List Wd}, (∀ h ∈ Q, GW m h) → s ∉ Q → fQ Q (keyB s) = none
  | [], _, _ => rfl
  | h :: t, hq, hm => by
    have hne : ¬ keyB h = keyB s := fun k => hm (by rw [keyB_inj hok (hq h (List.mem_cons_self ..)) hs k]; exact List.mem_cons_self ..)
    rw [fQ, if_neg hne, fQ_not hok hs (fun x hx => hq x (List.mem_cons_of_mem _ hx)) (fun k => hm (List.mem_cons_of_mem _ k))]; rfl
theorem fQ_snoc {m : Mch} (hok : m.Ok) {s : Wd} (hs : GW m s) : ∀ {Q : List Wd}, (∀ h ∈ Q, GW m h) → s ∉ Q → fQ (Q ++ [s]) = fun x => if x = keyB s then some Q.length else fQ Q x
  | [], _, _ => by
    funext x
    simp only [List.nil_append, fQ, List.length_nil]
    by_cases e : keyB s = x
    · rw [if_pos e, if_pos e.symm]
    · rw [if_neg e, if_neg (fun k => e k.symm)]; rfl
  | h :: t, hq, hm => by
    have hne : ¬ keyB h = keyB s := fun k => hm (by rw [keyB_inj hok (hq h (List.mem_cons_self ..)) hs k]; exact List.mem_cons_self ..)
    have ih := fQ_snoc hok hs (fun x hx => hq x (List.mem_cons_of_mem _ hx)) (fun k => hm (List.mem_cons_of_mem _ k))
    funext x
    simp only [List.cons_append, fQ, ih, List.length_cons]
    by_cases e : x = keyB s
    · rw [if_pos e, if_pos e, if_neg (fun k => hne (k.trans e))]; rfl
    · rw [if_neg e, if_neg e]
theorem fQ_one (s : Wd) : fQ [s] = fun x => if x = keyB s then some 0 else none := by
  funext x
  simp only [fQ]
  by_cases e : keyB s = x
  · rw [if_pos e, if_pos e.symm]
  · rw [if_neg e, if_neg (fun k => e k.symm)]; rfl

/-- what is read of a queue -/
theorem Mm.readQ {B : Nat} {w0 w : World} {L : List (Nat × List Value × TypeId)} {G : List (Value × TypeId × List Value)} (h : Mm B w0 w L G) {v : Value} {rq : List Value} {Q : List Wd} (hl : rq.length = Q.length) (hv : (v, 26, rq) ∈ G) (hr : ∀ x ∈ rowG rq Q, x ∈ G) {i : Nat} (hi : i < Q.length) :
    ∃ g c a d, v = .slice (some ⟨g, 0, none⟩) Q.length c ∧ w.cell? ⟨g, i, none⟩ = some (.slice a (Q[i]?.getD []).length d) ∧ IntsAt w a (Q[i]?.getD []) := by
  have ho := h.own _ hv
  simp only at ho
  obtain ⟨g, c, e, -, -, hc⟩ := own_form ho (by omega)
  have hrow : OwnI w B (rq[i]?.getD undef) (Q[i]?.getD []) := OwnI.of_row (h.own _ (hr _ (mem_of_get (rowG_get hl hi))))
  obtain ⟨a, d, e', hI⟩ := hrow.form
  refine ⟨g, c, a, d, by rw [e, hl], ?_, hI⟩
  have := hc i (rq[i]?.getD undef) (by rw [List.getElem?_eq_getElem (by omega)]; rfl)
  rw [this, e']
end Go.Proofs.Yteagecoiijhflaa
