import Derived.Test.YteagecoiijhflaaYBall26
import Derived.Test.YteagecoiijhflaaYBall24
/- The central words of a ball, of the reference. -/
namespace Go.Proofs.Yteagecoiijhflaa
open Go.RowKit
set_option linter.unusedVariables false
set_option linter.unusedSimpArgs false

theorem OwnI.new1 (w : World) (y : Int) : OwnI (w.alloc (.cells #[.int .i64 y] 2)) w.heap.size (.slice (some ⟨w.heap.size, 0, none⟩) 1 1) [y] :=
  OwnI.of_row (((Mm.start w).newOwn #[.int .i64 y] 2 1 rfl (by omega)).own _ (mem_of_get (i := 0) rfl))
theorem slO_four {w : World} (r1 r2 r3 r4 : Value) (g1 g2 g3 g4 : Wd) (B1 B2 B3 B4 : Nat) (h1 : OwnI w B1 r1 g1) (h2 : OwnI w B2 r2 g2) (h3 : OwnI w B3 r3 g3) (h4 : OwnI w B4 r4 g4) :
    SlO (w.alloc (.cells #[r1, r2, r3, r4] 26)) (.slice (some ⟨w.heap.size, 0, none⟩) 4 4) [g1, g2, g3, g4] := by
  have hb : Below w.heap.size w (w.alloc (.cells #[r1, r2, r3, r4] 26)) := (Below.refl _ w).alloc (Nat.le_refl _) _
  have hz := Blk.new w #[r1, r2, r3, r4] 26
  refine ⟨_, _, rfl, fun i hi => ?_⟩
  match i, hi with
  | 0, _ => exact ⟨r1, B1, hz.cell' (i := 0) rfl, h1.below hb⟩
  | 1, _ => exact ⟨r2, B2, hz.cell' (i := 1) rfl, h2.below hb⟩
  | 2, _ => exact ⟨r3, B3, hz.cell' (i := 2) rfl, h3.below hb⟩
  | 3, _ => exact ⟨r4, B4, hz.cell' (i := 3) rfl, h4.below hb⟩
theorem Mg.wordAt2 {B : Nat} {w0 w : World} {L : List (Nat × List Value × TypeId)} {g : Gr} {s : Bs} {vw vm vs : Value} {rw : List Value} {cs : List Nat} (h : Mg B w0 w L (g :: ballS s vw rw vm vs cs)) (hl : rw.length = s.length) {i : Nat} (hi : i < s.length) :
    OwnI w B (rw[i]?.getD undef) ((s[i]?.map (·.1)).getD []) := by
  rw [← List.append_nil (ballS s vw rw vm vs cs)] at h
  exact h.row (i + 4) (ballS_row (vw := vw) (vm := vm) (vs := vs) (cs := cs) hl hi)
theorem cenQ_join {m : Mch} (hok : m.Ok) (hwf : m.Wf) {w : Wd} (hw : GW m w) {s : Int} (hs : s ≠ 0 ∧ -(m.s : Int) ≤ s ∧ s ≤ m.s) : trvR m ([-s] ++ w ++ [s] ++ invW w) = cenQ m w s := by
  have h1 : GW m ([-s] ++ w ++ [s]) := gw_app (gw_app (fun p hp => by rw [List.mem_singleton.1 hp]; omega) hw) (fun p hp => by rw [List.mem_singleton.1 hp]; omega)
  rw [cenQ, ← trvR_inv hok hwf (gw_app hw (invW_gw h1)), invW_append, invW_invW]
theorem invW_drop {g : Wd} {j : Nat} (h : j < g.length) : invW (g.drop j) = invW (g.drop (j + 1)) ++ [-(g[j]?.getD 0)] := by
  rw [List.drop_eq_getElem_cons h, invW_cons, List.getElem?_eq_getElem h]; rfl

set_option maxRecDepth 100000 in
set_option maxHeartbeats 400000 in
theorem l02Inverse_any (a : Option Addr) (g : Wd) (c : Nat) (hl : g.length ≤ 1000) (hg : ∀ k ∈ g, -1000 ≤ k ∧ k ≤ 1000) (w : World) (hI : IntsAt w a g) :
    Calls Try.prog 82 #[.slice a g.length c] w fun e w' => ∃ v, e = .returned v ∧ Below w.heap.size w w' ∧ OwnI w' w.heap.size v (invW g) := by
  obtain ⟨i0, hi0, hz0, hz1, hz2⟩ := info_parts Try.info2
  have HI := Lib.hid hI
  have HGB := Lib.hid hg
  have HM0 : Hid (Mm w.heap.size w (w.alloc (.cells #[] 2)) [] [(.slice (some ⟨w.heap.size, 0, none⟩) 0 0, 2, i64s (invW (g.drop g.length)))]) := by
    show Mm _ _ _ _ _
    rw [List.drop_length]
    exact (Mm.start w).newOwn #[] 2 0 rfl (by omega)
  have e0 : IntKind.i64.wrap ((g.length : Int) - 1) = (g.length : Int) - 1 := IntWalk.i64_in _ (by omega)
  clear hI hg
  go_enter Try.func82, Try.ntmps82
  go_wp2_with fail
  go_loopw [3, 4] (fun v iv wr => ∃ j : Nat, j ≤ g.length ∧ iv = .int .i64 ((j : Int) - 1) ∧ Mm w.heap.size w wr [] [(v, 2, i64s (invW (g.drop j)))]) (fun _ i _ => (intOf i + 1).toNat)
  case atStart => exact ⟨g.length, Nat.le_refl _, rfl, HM0.out⟩
  case round =>
    clear HM0
    obtain ⟨j, hj, rfl, hM⟩ := hrel
    by_cases hlt : 0 < j
    · obtain ⟨i, rfl⟩ : ∃ i, j = i + 1 := ⟨j - 1, by omega⟩
      have hil : i < g.length := by omega
      have es : (((i + 1 : Nat) : Int) - 1) = (i : Int) := by omega
      rw [es]
      have ei : IntKind.i64.wrap ((i : Int) - 1) = (i : Int) - 1 := IntWalk.i64_in _ (by omega)
      obtain ⟨bb, off, rfl, c1⟩ := HI.out i hil
      have c1 := (hM.below.cell (World.block_lt_of_cell? _ _ c1)).trans c1
      have hgb := HGB.out (g[i]?.getD 0) (by rw [List.getElem?_eq_getElem hil, Option.getD_some]; exact List.getElem_mem hil)
      have en : IntKind.i64.wrap (-(g[i]?.getD 0)) = -(g[i]?.getD 0) := IntWalk.i64_in _ (by omega)
      have HDR := Lib.hid (invW_drop hil)
      have hxl : (i64s (invW (g.drop (i + 1)))).length ≤ 1000000 := by simp only [i64s, List.length_map, invW_len, List.length_drop]; omega
      have i1 : (0 : Int) ≤ (i : Int) := by omega
      have i2 : (i : Int) < (g.length : Int) := by omega
      generalize g[i]?.getD 0 = y at *
      clear hgb
      go_wp2_with (at_builtin; refine Mm.append rfl (.tmp 13) (.tmp 19) 26 rfl hM 0 rfl Try.underlying26 hi0 hz0 hz1 hz2 rfl rfl rfl rfl hxl (by omega) ?_)
      intro g6 c6 w6 hM6
      (try simp only [List.set_cons_zero] at hM6)
      have HM7 : Hid (Mm w.heap.size w w6 [] [(.slice (some ⟨g6, 0, none⟩) ((i64s (invW (g.drop (i + 1)))).length + 1) c6, 2, i64s (invW (g.drop i)))]) := by
        show Mm _ _ _ _ _
        rw [HDR.out]
        simpa [i64s] using hM6
      clear hM hM6
      go_wp2_with fail
      go_roundw
      case rel => exact ⟨i, by omega, rfl, HM7.out⟩
      case measure => simp [intOf] <;> omega
    · have hj0 : j = 0 := by omega
      subst hj0
      have es : (((0 : Nat) : Int) - 1) = -1 := by omega
      rw [es]
      have HO : Hid (OwnI wr w.heap.size u3 (invW g)) := by
        have h := OwnI.of_row (hM.own _ (List.mem_cons_self ..))
        show OwnI _ _ _ _
        rw [List.drop_zero] at h
        exact h
      have HB := Lib.hid hM.below
      clear hM
      go_wp2_with fail
      go_ret
      exact ⟨_, rfl, HB.out, HO.out⟩

set_option maxRecDepth 100000 in
set_option maxHeartbeats 400000 in
theorem l02Join_any (v : Value) (rows : List Wd) (hn : rows.length ≤ 1000) (hl : sumLen rows rows.length ≤ 100000) (w : World) (hS : SlO w v rows) :
    Calls Try.prog 81 #[v] w fun e w' => ∃ v', e = .returned v' ∧ Below w.heap.size w w' ∧ OwnI w' w.heap.size v' rows.flatten := by
  obtain ⟨i0, hi0, hz0, hs0, hb0⟩ := info_parts Try.info2
  have HFL : Hid (rows.flatten = (rows.take rows.length).flatten) := by show _ = _; rw [List.take_length]
  obtain ⟨b, c, rfl, hc⟩ := hS
  have HC := Lib.hid hc
  have HM1 : Hid (Mm w.heap.size w (w.alloc (.cells #[] 2)) [] [(.slice (some ⟨w.heap.size, 0, none⟩) 0 0, 2, i64s (rows.take 0).flatten)]) := (Mm.start w).newOwn #[] 2 0 rfl (by omega)
  clear hc
  go_enter Try.func81, Try.ntmps81
  go_wp2_with fail
  go_loopw [3, 4] (fun o iv wm => ∃ i : Nat, i ≤ rows.length ∧ iv = .int .i64 (i : Int) ∧ Mm w.heap.size w wm [] [(o, 2, i64s (rows.take i).flatten)]) (fun _ i _ => rows.length - (intOf i).toNat)
  case atStart => exact ⟨0, Nat.zero_le _, rfl, HM1.out⟩
  case round =>
    clear HM1
    obtain ⟨i, hi, rfl, hM⟩ := hrel
    have hsi := sumLen_le rows i
    have hfl := flat_len rows i
    have ei : IntKind.i64.wrap ((i : Int) + 1) = (i : Int) + 1 := IntWalk.i64_in _ (by omega)
    by_cases hli : i < rows.length
    · obtain ⟨r, B2, cr, hO⟩ := HC.out i hli
      have cr := (hM.below.cell (World.block_lt_of_cell? _ _ cr)).trans cr
      have HO := Lib.hid (hO.below hM.below)
      obtain ⟨ar, cr', rfl, -⟩ := hO.form
      have i1 : (0 : Int) ≤ (i : Int) := by omega
      have i2 : (i : Int) < (rows.length : Int) := by omega
      have hss := sumLen_succ rows i hli
      have hs2 := sumLen_le rows (i + 1)
      have HFS := Lib.hid (flat_succ rows hli)
      have hgl : (rows[i]?.getD []).length ≤ 100000 := by omega
      generalize rows[i]?.getD [] = g at *
      generalize (rows.take i).flatten = fl at *
      have hfl2 : (i64s fl).length ≤ 1000000 := by simp only [i64s, List.length_map]; omega
      clear hO hss hfl
      go_wp2_with (at_builtin; refine Mm.appendRow rfl (.tmp 12) (.tmp 16) 26 rfl hM 0 rfl Try.underlying26 hi0 hz0 hs0 hb0 rfl rfl rfl (n := g.length) (by simp [i64s]) HO.out (fun y hy => by obtain ⟨x, -, rfl⟩ := List.mem_map.1 hy; rfl) hfl2 (by simp [i64s]; omega) (by omega) ?_)
      intro v' w3 hM3
      have HM3 : Hid (Mm w.heap.size w w3 [] [(v', 2, i64s (rows.take (i + 1)).flatten)]) := by
        show Mm _ _ _ _ _; rw [HFS.out]; simpa [i64s] using hM3
      clear hM hM3 HO
      go_wp2_with fail
      go_roundw
      case rel => exact ⟨i + 1, by omega, by go_num, HM3.out⟩
      case measure => simp [intOf] <;> omega
    · have hi' : i = rows.length := by omega
      subst hi'
      have j2 : ¬ ((rows.length : Int) < (rows.length : Int)) := by omega
      have HO := Lib.hid (OwnI.of_row (hM.own _ (List.mem_cons_self ..)))
      have hb := hM.below
      clear hM
      go_wp2_with fail
      go_ret
      exact ⟨_, rfl, hb, by rw [HFL.out]; exact HO.out⟩

set_option maxRecDepth 100000 in
set_option maxHeartbeats 4000000 in
theorem specCentralInBall_any (m : Mch) (hwf : m.Wf) (r : Int) (w : World) :
    Calls Try.prog 51 #[.agg m.cells.toArray, .int .i64 r] w (RetII (cenX m r).1 (cenX m r).2 w) := by
  have HMX := Lib.hid (show Try.prog.follows .mixedOrders = true by kernel_rfl)
  have HI3 : Hid (∀ a b c : Value, (Try.prog.info? 90).map (·.size) = some [a, b, c].length) := by
    have h : (Try.prog.info? 90).map (·.size) = some 3 := by kernel_rfl
    exact fun _ _ _ => h
  have hM0 := (Mg.start w).alloc m.cells.toArray 29
  have hm := hM0.mach 0 rfl
  have HBO := Lib.hid (l10Of_any m hwf r (w.alloc (.cells m.cells.toArray 29)))
  have HM0 := Lib.hid hM0
  clear hM0
  go_enter Try.func51, Try.ntmps51
  go_wp2_with ((with_reducible refine ld_mach ?_ (.tmp 2) ?_ (w.heap.size) (0) ?_ m hm hwf ?_); exact rfl; exact rfl; exact rfl)
  refine HBO.out.mono ?_
  rintro e w1 ⟨hb1, hR⟩
  have HC1 := Lib.hid (HM0.out.call hb1)
  clear HBO hm HM0
  cases hb : ballI m r with
  | error c =>
    rw [hb] at hR
    obtain ⟨hc, g, x, y, z, rfl, k1, k2, k3⟩ := hR
    have HD := Lib.hid (cenX_err hb)
    have j1 : (c != 0) = true := by simpa using hc
    have hM1 := HC1.out.alloc #[.slice none 0 0, .slice none 0 0, .slice none 0 0] 90
    have ht := (hM1.at 0 rfl).there 0 3 (by simp)
    have HM2 := Lib.hid (hM1.setAll 0 rfl (vs := [x, y, z]) rfl)
    have HON : Hid (∀ v ∈ [x, y, z], v.oneCell' = true) := by show ∀ v ∈ _, _; simp [k1, k2, k3]
    clear hb hb1 hc hM1 k1 k2 k3
    go_wp2_with ((with_reducible refine st_row ?_ 90 (.tmp 6) (.tmp 20) ?_ w1.heap.size 0 [x, y, z] ?_ ?_ ?_ (HI3.out _ _ _) HON.out ?_); exact rfl; exact rfl; exact rfl; exact rfl; exact ht)
    go_ret2
    rw [HD.out]
    exact ⟨_, rfl, HM2.out.below, OwnII.nil _ _ HM2.out.below.size⟩
  | ok p =>
    obtain ⟨s, st⟩ := p
    rw [hb] at hR
    obtain ⟨B, ga, gc, vw, vm, vs, rw, rfl, hB, hIg, hl, hM⟩ := hR
    have hmp := ballI_case hb
    have hbs := ballI_bs hb
    have HBS := Lib.hid hbs
    have hs2 := hbs.many
    have hok := mach_ok hmp
    have hgl := genI_len m hok.s_le
    have h16 := hok.s_le
    have HOK := Lib.hid hok
    have HDE : Hid (∀ c, cenU m (genI m).1 (s.map (·.1)) (s.map (·.1)).length = .error c → cenX m r = ([], c)) := fun c h => cenX_bad hb h
    have HDO : Hid (∀ l, cenU m (genI m).1 (s.map (·.1)) (s.map (·.1)).length = .ok l → cenX m r = (l, 0)) := fun l h => cenX_ok hb h
    obtain ⟨aw, cw, rfl⟩ := hM.sl 0 (v := vw) rfl
    obtain ⟨am, cm, rfl⟩ := hM.sl 1 (v := vm) rfl
    obtain ⟨av, cv, rfl⟩ := hM.sl 2 (v := vs) rfl
    have hM1 := hM.alloc #[.slice none 0 0, .slice none 0 0, .slice none 0 0] 90
    have ht := (hM1.at 0 rfl).there 0 3 (by simp)
    have HM2 : Hid (Mg B w1 ((w1.alloc (.cells #[.slice none 0 0, .slice none 0 0, .slice none 0 0] 90)).setCells w1.heap.size 0 [.slice aw s.length cw, .slice am s.length cm, .slice av st.length cv]) [(w1.heap.size, [.slice aw s.length cw, .slice am s.length cm, .slice av st.length cv], 90)] (ballS s (.slice aw s.length cw) rw (.slice am s.length cm) (.slice av st.length cv) st)) := hM1.setAll 0 rfl (vs := [.slice aw s.length cw, .slice am s.length cm, .slice av st.length cv]) rfl
    have HBW : Hid (w.heap.size < B) := by show _ < _; simp only [World.size_alloc] at hB; omega
    have HCB : Hid (∀ W, Below B w1 W → Mg w.heap.size w W [(w.heap.size, m.cells, 29)] []) := fun W hW => HC1.out.callB (fun x hx => by
        rw [List.mem_singleton.1 hx]; exact HBW.out) (Nat.le_of_lt HBW.out) hW
    have HRW := Lib.hid hl
    have HIG : Hid (∀ W, Below B w1 W → IntsAt W ga (genI m).1) := fun W hW => hIg.1.ints hIg.2 hW
    have HGW := Lib.hid (genI_gw m)
    have HMAP : Hid ((s.map (·.1)).length = s.length) := List.length_map _
    have HIM := Lib.hid (mach_infoT hwf)
    obtain ⟨i0, hi0, hz0, hz1, hz2⟩ := info_parts Try.info26
    clear hb hb1 hM1 hM hl hB hmp hbs hok hIg
    generalize hgs : (genI m).1 = gs at *
    generalize hb6 : w1.heap.size = b6 at *
    go_wp2_with ((with_reducible refine st_row ?_ 90 (.tmp 6) (.tmp 20) ?_ b6 0 [.slice aw s.length cw, .slice am s.length cm, .slice av st.length cv] ?_ ?_ ?_ (HI3.out _ _ _) ?_ ?_); exact rfl; exact rfl; exact rfl; exact rfl; exact ht; (simp [Value.oneCell']); clear ht; generalize (w1.alloc (.cells #[.slice none 0 0, .slice none 0 0, .slice none 0 0] 90)).setCells b6 0 [.slice aw s.length cw, .slice am s.length cm, .slice av st.length cv] = W2 at *)
    have HM3 : Hid (Mg B w1 (W2.alloc (.cells #[] 26)) [(b6, [.slice aw s.length cw, .slice am s.length cm, .slice av st.length cv], 90)] (⟨.slice (some ⟨W2.heap.size, 0, none⟩) 0 0, 26, 1, ([] : List Wd).length, []⟩ :: ballS s (.slice aw s.length cw) rw (.slice am s.length cm) (.slice av st.length cv) st)) := HM2.out.newOwn #[] 26 1 0 rfl (by omega)
    clear HM2
    go_loopw [9, 10] (fun v9 iv wr => ∃ (i : Nat) (l : List Wd) (rl : List Value), i ≤ s.length ∧ iv = .int .i64 (i : Int) ∧ Hid (cenU m gs (s.map (·.1)) i = .ok l) ∧ Hid (rl.length = l.length ∧ l.length ≤ i ∧ (rowG rl l).Sublist (rowG (rw.take i) ((s.map (·.1)).take i))) ∧ Mg B w1 wr [(b6, [.slice aw s.length cw, .slice am s.length cm, .slice av st.length cv], 90)] (⟨v9, 26, 1, l.length, rl⟩ :: ballS s (.slice aw s.length cw) rw (.slice am s.length cm) (.slice av st.length cv) st)) (fun _ i _ => s.length - (intOf i).toNat)
    case atStart => exact ⟨0, [], [], Nat.zero_le _, rfl, rfl, ⟨rfl, Nat.le_refl _, List.nil_sublist _⟩, HM3.out⟩
    case round =>
      clear HM3
      obtain ⟨i, l, rl, hi, rfl, HU, HS, hM⟩ := hrel
      have ei : IntKind.i64.wrap ((i : Int) + 1) = (i : Int) + 1 := IntWalk.i64_in _ (by omega)
      have c0 := (hM.at 0 rfl).cell' (i := 0) rfl
      by_cases hlt : i < s.length
      · obtain ⟨gw, cw2, e1, -⟩ := hM.room 1 (v := .slice aw s.length cw) rfl (by omega)
        injection e1 with e1 _ e2
        subst e1 e2
        obtain ⟨rx, hr⟩ : ∃ rx, rw[i]? = some rx := ⟨_, List.getElem?_eq_getElem (by rw [HRW.out]; exact hlt)⟩
        have c3 : wr.cell? ⟨gw, i, none⟩ = some rx := hM.cellAt (i := 1) rfl hr
        have hO : OwnI wr B (rw[i]?.getD undef) ((s[i]?.map (·.1)).getD []) := hM.wordAt2 HRW.out hlt
        rw [hr, Option.getD_some, ← List.getElem?_map] at hO
        have hx : (s.map (·.1))[i]? = some ((s.map (·.1))[i]?.getD []) := by rw [List.getElem?_eq_getElem (by rw [HMAP.out]; exact hlt)]; rfl
        have HX : Hid (GW m ((s.map (·.1))[i]?.getD []) ∧ ((s.map (·.1))[i]?.getD []).length ≤ 5) := by
          rw [List.getElem?_map, List.getElem?_eq_getElem hlt]
          exact ⟨HBS.out.gw _ (List.getElem_mem hlt), HBS.out.len _ (List.getElem_mem hlt)⟩
        have HUB : Hid (∀ b c, cenK m gs ((s.map (·.1))[i]?.getD []) gs.length = (b, c) → c ≠ 0 → cenX m r = ([], c)) := fun b c h1 h2 => HDE.out c (cenU_end (cenU_bad HU.out h1 h2) (by rw [HMAP.out]; exact hlt))
        have HUY := Lib.hid (fun h => cenU_yes HU.out h)
        have HUN := Lib.hid (fun h => cenU_no HU.out h)
        have HSY : Hid ((rl ++ [rx]).length = (l ++ [(s.map (·.1))[i]?.getD []]).length ∧ (l ++ [(s.map (·.1))[i]?.getD []]).length ≤ i + 1 ∧ (rowG (rl ++ [rx]) (l ++ [(s.map (·.1))[i]?.getD []])).Sublist (rowG (rw.take (i + 1)) ((s.map (·.1)).take (i + 1)))) := by
          have e1 : rw.take (i + 1) = rw.take i ++ [rx] := by rw [List.take_add_one, hr]; rfl
          have e2 : (s.map (·.1)).take (i + 1) = (s.map (·.1)).take i ++ [(s.map (·.1))[i]?.getD []] := by rw [List.take_add_one, hx]; rfl
          refine ⟨by simp [HS.out.1], by simp; exact HS.out.2.1, ?_⟩
          rw [e1, e2, rowG_snoc _ _ HS.out.1, rowG_snoc _ _ (by simp [HRW.out])]
          exact HS.out.2.2.append (List.Sublist.refl _)
        have HSN : Hid (rl.length = l.length ∧ l.length ≤ i + 1 ∧ (rowG rl l).Sublist (rowG (rw.take (i + 1)) ((s.map (·.1)).take (i + 1)))) := by
          have e1 : rw.take (i + 1) = rw.take i ++ [rx] := by rw [List.take_add_one, hr]; rfl
          have e2 : (s.map (·.1)).take (i + 1) = (s.map (·.1)).take i ++ [(s.map (·.1))[i]?.getD []] := by rw [List.take_add_one, hx]; rfl
          refine ⟨HS.out.1, by have := HS.out.2.1; omega, ?_⟩
          rw [e1, e2, rowG_snoc _ _ (by simp [HRW.out])]
          exact HS.out.2.2.trans (List.sublist_append_left _ _)
        have hll := HS.out.2.1
        clear hx HU
        obtain ⟨a1, c1, e3, -⟩ := id hO.form
        subst e3
        have HOX : Hid (∀ W G', Mg B w1 W [(b6, [.slice (some ⟨gw, 0, none⟩) s.length cw, .slice am s.length cm, .slice av st.length cv], 90)] (G' :: ballS s (.slice (some ⟨gw, 0, none⟩) s.length cw) rw (.slice am s.length cm) (.slice av st.length cv) st) → OwnI W B (.slice a1 ((s.map (·.1))[i]?.getD []).length c1) ((s.map (·.1))[i]?.getD [])) := fun W G' h => by
          have h2 : OwnI W B (rw[i]?.getD undef) ((s[i]?.map (·.1)).getD []) := h.wordAt2 HRW.out hlt
          rw [hr, Option.getD_some, ← List.getElem?_map] at h2
          exact h2
        clear hr hO
        generalize (s.map (·.1))[i]?.getD [] = x at *
        have hx5 := HX.out.2
        have HLI : Hid (∀ W G', Mg B w1 W [(b6, [.slice (some ⟨gw, 0, none⟩) s.length cw, .slice am s.length cm, .slice av st.length cv], 90)] (G' :: ballS s (.slice (some ⟨gw, 0, none⟩) s.length cw) rw (.slice am s.length cm) (.slice av st.length cv) st) → Calls Try.prog 82 #[.slice a1 x.length c1] W fun e w' => ∃ v, e = .returned v ∧ Below W.heap.size W w' ∧ OwnI w' W.heap.size v (invW x)) := fun W G' h => by
          have hO := HOX.out W G' h
          obtain ⟨a2, c2, e, hI⟩ := hO.form
          injection e with e1 _ e2
          subst e1 e2
          exact l02Inverse_any _ x _ (by omega) (fun k hk => by have := HX.out.1 k hk; omega) W hI
        have i1 : (0 : Int) ≤ (i : Int) := by omega
        have i2 : (i : Int) < (s.length : Int) := by omega
        have HM := Lib.hid hM
        clear hM
        go_wp2_with fail
        clear c0 c3
        go_loopw [12, 13] (fun bv kv wk => ∃ (k : Nat) (b : Bool), k ≤ gs.length ∧ bv = .bool b ∧ kv = .int .i64 (k : Int) ∧ Hid ((b = true ∧ cenK m gs x k = (true, 0)) ∨ (b = false ∧ cenK m gs x gs.length = (false, 0))) ∧ Mg B w1 wk [(b6, [.slice (some ⟨gw, 0, none⟩) s.length cw, .slice am s.length cm, .slice av st.length cv], 90)] (⟨u9, 26, 1, l.length, rl⟩ :: ballS s (.slice (some ⟨gw, 0, none⟩) s.length cw) rw (.slice am s.length cm) (.slice av st.length cv) st)) (fun _ k _ => gs.length - (intOf k).toNat)
        case atStart => exact ⟨0, true, Nat.zero_le _, rfl, rfl, .inl ⟨rfl, rfl⟩, HM.out⟩
        case round =>
          clear HM
          obtain ⟨k, b, hk, rfl, rfl, HK, hM⟩ := hrel
          have ek : IntKind.i64.wrap ((k : Int) + 1) = (k : Int) + 1 := IntWalk.i64_in _ (by omega)
          cases b with
          | false =>
            have hK : cenK m gs x gs.length = (false, 0) := by
              rcases HK.out with ⟨h, -⟩ | ⟨-, h⟩
              · cases h
              · exact h
            have HU2 := Lib.hid (HUN.out hK)
            have HM := Lib.hid hM
            clear HUY HUN HUB hM hK HK
            by_cases hkl : k < gs.length
            case' pos => have k2 : (k : Int) < (gs.length : Int) := by omega
            case' neg => have k2 : ¬ ((k : Int) < (gs.length : Int)) := by omega
            all_goals
              go_wp2_with fail
              go_roundw
              case rel => exact ⟨i + 1, _, _, by omega, by go_num, HU2.out, HSN.out, HM.out⟩
              case measure => simp [intOf] <;> omega
          | true =>
            have hK : cenK m gs x k = (true, 0) := by
              rcases HK.out with ⟨-, h⟩ | ⟨h, -⟩
              · exact h
              · cases h
            by_cases hkl : k < gs.length
            · have k1 : (0 : Int) ≤ (k : Int) := by omega
              have k2 : (k : Int) < (gs.length : Int) := by omega
              obtain ⟨bb, off, ea, -⟩ := HIG.out _ hM.below k hkl
              subst ea
              have HYC : Hid (∀ W, Below B w1 W → W.cell? ⟨bb, off + k, none⟩ = some (.int .i64 (gs[k]?.getD 0))) := fun W hW => by
                obtain ⟨b2, o2, e2, h2⟩ := HIG.out W hW k hkl
                injection e2 with e2
                injection e2 with e3 e4
                subst e3 e4
                exact h2
              have hkm : gs[k]?.getD 0 ∈ gs := by rw [List.getElem?_eq_getElem hkl, Option.getD_some]; exact List.getElem_mem hkl
              have hb3 := HGW.out _ hkm
              have HN := Lib.hid (cenK_next hK)
              have HE : Hid (∀ R, cenQ m x (gs[k]?.getD 0) = R → R ≠ (true, 0) → cenK m gs x gs.length = R) := fun R h hR => cenK_end ((cenK_next hK).trans h) hR hkl
              have HQ : Hid (cenQ m x (gs[k]?.getD 0) = (true, 0) ∨ cenQ m x (gs[k]?.getD 0) = (false, 0) ∨ cenQ m x (gs[k]?.getD 0) = (false, 3)) := trvR_or m _
              have hgj : GW m ([-(gs[k]?.getD 0)] ++ x ++ [gs[k]?.getD 0] ++ invW x) := gw_app (gw_app (gw_app (fun p hp => by rw [List.mem_singleton.1 hp]; omega) HX.out.1) (fun p hp => by rw [List.mem_singleton.1 hp]; omega)) (invW_gw HX.out.1)
              have HTR : Hid (∀ W a c, IntsAt W a ([-(gs[k]?.getD 0)] ++ x ++ [gs[k]?.getD 0] ++ invW x) → Calls Try.prog 62 #[.agg m.cells.toArray, .slice a ([-(gs[k]?.getD 0)] ++ x ++ [gs[k]?.getD 0] ++ invW x).length c] W (Ret (.tuple #[.bool (cenQ m x (gs[k]?.getD 0)).1, .int .i64 (cenQ m x (gs[k]?.getD 0)).2]) W)) := fun W a c hI => by
                have h := l02Trivial_any m hwf HOK.out a _ c hgj (by simp [invW_len]; omega) W hI
                rw [cenQ_join HOK.out hwf HX.out.1 hb3] at h
                exact h
              have en : IntKind.i64.wrap (-(gs[k]?.getD 0)) = -(gs[k]?.getD 0) := IntWalk.i64_in _ (by omega)
              clear hkm hK HK hgj
              have HS3 : Hid (∀ W G, Mg B w1 W [(b6, [.slice (some ⟨gw, 0, none⟩) s.length cw, .slice am s.length cm, .slice av st.length cv], 90)] G → MAt W w.heap.size 0 m ∧ W.cell? ⟨bb, off + k, none⟩ = some (.int .i64 (gs[k]?.getD 0))) := fun W G h => ⟨(HCB.out W h.below).mach 0 rfl, HYC.out W h.below⟩
              generalize gs[k]?.getD 0 = y at *
              clear hb3
              have HMd : Hid (Mg B w1 wr.drew [(b6, [.slice (some ⟨gw, 0, none⟩) s.length cw, .slice am s.length cm, .slice av st.length cv], 90)] (⟨u9, 26, 1, l.length, rl⟩ :: ballS s (.slice (some ⟨gw, 0, none⟩) s.length cw) rw (.slice am s.length cm) (.slice av st.length cv) st)) := hM.drewN 1
              clear hM HYC
              go_wp2_with fail
              refine region_A (fun W => MAt W w.heap.size 0 m ∧ W.cell? ⟨bb, off + k, none⟩ = some (.int .i64 y)) [] 23 (fun W => Mg B w1 W [(b6, [.slice (some ⟨gw, 0, none⟩) s.length cw, .slice am s.length cm, .slice av st.length cv], 90)] (⟨u9, 26, 1, l.length, rl⟩ :: ballS s (.slice (some ⟨gw, 0, none⟩) s.length cw) rw (.slice am s.length cm) (.slice av st.length cv) st)) rfl HMX.out HMd.out (fun W h => HS3.out W _ h) (fun W hMW hU => ?_)
              clear HMd
              (refine AnyS.takeS (i := 0) rfl (by kernel_rfl) (by kernel_rfl) (by kernel_rfl) (by rfl) (by kernel_rfl) (by kernel_rfl) (fun _ _ _ h => h) (by rfl) (fun W hW => run_ld Try.underlying29 rfl HIM.out (.tmp 2) rfl rfl hW.1) hU (fun hU => ?_); (try simp only [Act.put, List.setIfInBounds_toArray, List.set_cons_zero, List.set_cons_succ]))
              (refine AnyS.take (i := 1) rfl (by kernel_rfl) (by kernel_rfl) (by kernel_rfl) (by rfl) (fun _ _ _ h => h) (by rfl) (by intro w; go_simp; with_reducible rfl) hU (fun hU => ?_); (try simp only [Act.put, List.setIfInBounds_toArray, List.set_cons_zero, List.set_cons_succ]); refine AnyS.take (i := 2) rfl (by kernel_rfl) (by kernel_rfl) (by kernel_rfl) (by rfl) (fun _ _ _ h => h) (by rfl) (by intro w; go_simp; with_reducible rfl) hU (fun hU => ?_); (try simp only [Act.put, List.setIfInBounds_toArray, List.set_cons_zero, List.set_cons_succ]); refine AnyS.take (i := 3) rfl (by kernel_rfl) (by kernel_rfl) (by kernel_rfl) (by rfl) (fun _ _ _ h => h) (by rfl) (by intro w; go_simp; with_reducible rfl) hU (fun hU => ?_); (try simp only [Act.put, List.setIfInBounds_toArray, List.set_cons_zero, List.set_cons_succ]))
              (refine AnyS.takeS (i := 4) rfl (by kernel_rfl) (by kernel_rfl) (by kernel_rfl) (by rfl) (by kernel_rfl) (by kernel_rfl) (fun _ _ _ h => h) (by rfl) (by intro W hSw; have h1 := hSw.2; clear hSw; go_simp; with_reducible rfl) hU (fun hU => ?_); (try simp only [Act.put, List.setIfInBounds_toArray, List.set_cons_zero, List.set_cons_succ]))
              (refine AnyS.take (i := 5) rfl (by kernel_rfl) (by kernel_rfl) (by kernel_rfl) (by rfl) (fun _ _ _ h => h) (by rfl) (by intro w; go_simp; with_reducible rfl) hU (fun hU => ?_); (try simp only [Act.put, List.setIfInBounds_toArray, List.set_cons_zero, List.set_cons_succ]); refine AnyS.take (i := 7) rfl (by kernel_rfl) (by kernel_rfl) (by kernel_rfl) (by rfl) (fun _ _ _ h => h) (by rfl) (by intro w; go_simp; with_reducible rfl) hU (fun hU => ?_); (try simp only [Act.put, List.setIfInBounds_toArray, List.set_cons_zero, List.set_cons_succ]); refine AnyS.take (i := 8) rfl (by kernel_rfl) (by kernel_rfl) (by kernel_rfl) (by rfl) (fun _ _ _ h => h) (by rfl) (by intro w; go_simp; with_reducible rfl) hU (fun hU => ?_); (try simp only [Act.put, List.setIfInBounds_toArray, List.set_cons_zero, List.set_cons_succ]); refine AnyS.take (i := 9) rfl (by kernel_rfl) (by kernel_rfl) (by kernel_rfl) (by rfl) (fun _ _ _ h => h) (by rfl) (by intro w; go_simp; with_reducible rfl) hU (fun hU => ?_); (try simp only [Act.put, List.setIfInBounds_toArray, List.set_cons_zero, List.set_cons_succ]); refine AnyS.take (i := 10) rfl (by kernel_rfl) (by kernel_rfl) (by kernel_rfl) (by rfl) (fun _ _ _ h => h) (by rfl) (by intro w; go_simp; with_reducible rfl) hU (fun hU => ?_); (try simp only [Act.put, List.setIfInBounds_toArray, List.set_cons_zero, List.set_cons_succ]))
              (refine AnyS.takeS (i := 11) rfl (by kernel_rfl) (by kernel_rfl) (by kernel_rfl) (by rfl) (by kernel_rfl) (by kernel_rfl) (fun _ _ _ h => h) (by rfl) (by intro W hSw; have h1 := hSw.2; clear hSw; go_simp; with_reducible rfl) hU (fun hU => ?_); (try simp only [Act.put, List.setIfInBounds_toArray, List.set_cons_zero, List.set_cons_succ]))
              (refine AnyS.take (i := 13) rfl (by kernel_rfl) (by kernel_rfl) (by kernel_rfl) (by rfl) (fun _ _ _ h => h) (by rfl) (by intro w; go_simp; with_reducible rfl) hU (fun hU => ?_); (try simp only [Act.put, List.setIfInBounds_toArray, List.set_cons_zero, List.set_cons_succ]))
              refine AnyS.branch (rs := [6, 12, 14]) (by kernel_rfl) (by simp) (AllS.cons rfl (fun K hK => ?q_6) (AllS.cons rfl (fun K hK => ?q_12) (AllS.cons rfl (fun K hK => ?q_14) AllS.nil)))
              case' q_6 =>
                have hBn : Below W.heap.size W (W.alloc (.cells #[.int .i64 (-y)] 2)) := (Below.refl _ _).alloc (Nat.le_refl _) _
                have hMWa := hMW.call hBn
                have hO6 := (OwnI.new1 W (-y)).less (C := B) hMW.size
                go_simp
                refine hK.out _ _ (.inl (HS3.out _ _ hMWa)) (fun hU => ?_)
                clear hK K hBn hMW
                (try simp only [Act.put, List.setIfInBounds_toArray, List.set_cons_zero, List.set_cons_succ])
                generalize W.alloc (.cells #[.int .i64 (-y)] 2) = Wa at *
                generalize W.heap.size = b6' at *
                refine AnyS.branch (rs := [12, 14]) (by kernel_rfl) (by simp) (AllS.cons rfl (fun K hK => ?q_6_12) (AllS.cons rfl (fun K hK => ?q_6_14) AllS.nil))
              case' q_12 =>
                have hBn : Below W.heap.size W (W.alloc (.cells #[.int .i64 y] 2)) := (Below.refl _ _).alloc (Nat.le_refl _) _
                have hMWa := hMW.call hBn
                have hO12 := (OwnI.new1 W y).less (C := B) hMW.size
                go_simp
                refine hK.out _ _ (.inl (HS3.out _ _ hMWa)) (fun hU => ?_)
                clear hK K hBn hMW
                (try simp only [Act.put, List.setIfInBounds_toArray, List.set_cons_zero, List.set_cons_succ])
                generalize W.alloc (.cells #[.int .i64 y] 2) = Wa at *
                generalize W.heap.size = b12 at *
                refine AnyS.branch (rs := [6, 14]) (by kernel_rfl) (by simp) (AllS.cons rfl (fun K hK => ?q_12_6) (AllS.cons rfl (fun K hK => ?q_12_14) AllS.nil))
              case' q_14 =>
                have hc14 := HLI.out W _ hMW
                go_simp
                refine hc14.mono ?_
                rintro e Wa ⟨v14, rfl, hBn, hO14⟩
                have hMWa := hMW.call hBn
                have hO14 := hO14.less (C := B) hMW.size
                refine hK.out _ _ (.inl (HS3.out _ _ hMWa)) (fun hU => ?_)
                clear hK K hBn hMW hc14
                (try simp only [Act.put, List.setIfInBounds_toArray, List.set_cons_zero, List.set_cons_succ])
                refine AnyS.branch (rs := [6, 12]) (by kernel_rfl) (by simp) (AllS.cons rfl (fun K hK => ?q_14_6) (AllS.cons rfl (fun K hK => ?q_14_12) AllS.nil))
              case' q_6_12 =>
                have hBn : Below Wa.heap.size Wa (Wa.alloc (.cells #[.int .i64 y] 2)) := (Below.refl _ _).alloc (Nat.le_refl _) _
                have hMWb := hMWa.call hBn
                have hO12 := (OwnI.new1 Wa y).less (C := B) hMWa.size
                have hO6 := hO6.below hBn
                go_simp
                refine hK.out _ _ (.inl (HS3.out _ _ hMWb)) (fun hU => ?_)
                clear hK K hBn hMWa
                (try simp only [Act.put, List.setIfInBounds_toArray, List.set_cons_zero, List.set_cons_succ])
                generalize Wa.alloc (.cells #[.int .i64 y] 2) = Wb at *
                generalize Wa.heap.size = b12 at *
                (refine AnyS.branch (rs := [14]) (by kernel_rfl) (List.cons_ne_nil _ _) ?_; refine AllS.cons rfl ?_ AllS.nil; intro K hK)
                have hc14 := HLI.out Wb _ hMWb
                go_simp
                refine hc14.mono ?_
                rintro e Wc ⟨v14, rfl, hBn, hO14⟩
                have hMWc := hMWb.call hBn
                have hO14 := hO14.less (C := B) hMWb.size
                have hO6 := hO6.below hBn
                have hO12 := hO12.below hBn
                refine hK.out _ _ (.inl (HS3.out _ _ hMWc)) (fun hU => ?_)
                clear hK K hBn hMWb hc14
                (try simp only [Act.put, List.setIfInBounds_toArray, List.set_cons_zero, List.set_cons_succ])
              case' q_6_14 =>
                have hc14 := HLI.out Wa _ hMWa
                go_simp
                refine hc14.mono ?_
                rintro e Wb ⟨v14, rfl, hBn, hO14⟩
                have hMWb := hMWa.call hBn
                have hO14 := hO14.less (C := B) hMWa.size
                have hO6 := hO6.below hBn
                refine hK.out _ _ (.inl (HS3.out _ _ hMWb)) (fun hU => ?_)
                clear hK K hBn hMWa hc14
                (try simp only [Act.put, List.setIfInBounds_toArray, List.set_cons_zero, List.set_cons_succ])
                (refine AnyS.branch (rs := [12]) (by kernel_rfl) (List.cons_ne_nil _ _) ?_; refine AllS.cons rfl ?_ AllS.nil; intro K hK)
                have hBn : Below Wb.heap.size Wb (Wb.alloc (.cells #[.int .i64 y] 2)) := (Below.refl _ _).alloc (Nat.le_refl _) _
                have hMWc := hMWb.call hBn
                have hO12 := (OwnI.new1 Wb y).less (C := B) hMWb.size
                have hO6 := hO6.below hBn
                have hO14 := hO14.below hBn
                go_simp
                refine hK.out _ _ (.inl (HS3.out _ _ hMWc)) (fun hU => ?_)
                clear hK K hBn hMWb
                (try simp only [Act.put, List.setIfInBounds_toArray, List.set_cons_zero, List.set_cons_succ])
                generalize Wb.alloc (.cells #[.int .i64 y] 2) = Wc at *
                generalize Wb.heap.size = b12 at *
              case' q_12_6 =>
                have hBn : Below Wa.heap.size Wa (Wa.alloc (.cells #[.int .i64 (-y)] 2)) := (Below.refl _ _).alloc (Nat.le_refl _) _
                have hMWb := hMWa.call hBn
                have hO6 := (OwnI.new1 Wa (-y)).less (C := B) hMWa.size
                have hO12 := hO12.below hBn
                go_simp
                refine hK.out _ _ (.inl (HS3.out _ _ hMWb)) (fun hU => ?_)
                clear hK K hBn hMWa
                (try simp only [Act.put, List.setIfInBounds_toArray, List.set_cons_zero, List.set_cons_succ])
                generalize Wa.alloc (.cells #[.int .i64 (-y)] 2) = Wb at *
                generalize Wa.heap.size = b6' at *
                (refine AnyS.branch (rs := [14]) (by kernel_rfl) (List.cons_ne_nil _ _) ?_; refine AllS.cons rfl ?_ AllS.nil; intro K hK)
                have hc14 := HLI.out Wb _ hMWb
                go_simp
                refine hc14.mono ?_
                rintro e Wc ⟨v14, rfl, hBn, hO14⟩
                have hMWc := hMWb.call hBn
                have hO14 := hO14.less (C := B) hMWb.size
                have hO12 := hO12.below hBn
                have hO6 := hO6.below hBn
                refine hK.out _ _ (.inl (HS3.out _ _ hMWc)) (fun hU => ?_)
                clear hK K hBn hMWb hc14
                (try simp only [Act.put, List.setIfInBounds_toArray, List.set_cons_zero, List.set_cons_succ])
              case' q_12_14 =>
                have hc14 := HLI.out Wa _ hMWa
                go_simp
                refine hc14.mono ?_
                rintro e Wb ⟨v14, rfl, hBn, hO14⟩
                have hMWb := hMWa.call hBn
                have hO14 := hO14.less (C := B) hMWa.size
                have hO12 := hO12.below hBn
                refine hK.out _ _ (.inl (HS3.out _ _ hMWb)) (fun hU => ?_)
                clear hK K hBn hMWa hc14
                (try simp only [Act.put, List.setIfInBounds_toArray, List.set_cons_zero, List.set_cons_succ])
                (refine AnyS.branch (rs := [6]) (by kernel_rfl) (List.cons_ne_nil _ _) ?_; refine AllS.cons rfl ?_ AllS.nil; intro K hK)
                have hBn : Below Wb.heap.size Wb (Wb.alloc (.cells #[.int .i64 (-y)] 2)) := (Below.refl _ _).alloc (Nat.le_refl _) _
                have hMWc := hMWb.call hBn
                have hO6 := (OwnI.new1 Wb (-y)).less (C := B) hMWb.size
                have hO12 := hO12.below hBn
                have hO14 := hO14.below hBn
                go_simp
                refine hK.out _ _ (.inl (HS3.out _ _ hMWc)) (fun hU => ?_)
                clear hK K hBn hMWb
                (try simp only [Act.put, List.setIfInBounds_toArray, List.set_cons_zero, List.set_cons_succ])
                generalize Wb.alloc (.cells #[.int .i64 (-y)] 2) = Wc at *
                generalize Wb.heap.size = b6' at *
              case' q_14_6 =>
                have hBn : Below Wa.heap.size Wa (Wa.alloc (.cells #[.int .i64 (-y)] 2)) := (Below.refl _ _).alloc (Nat.le_refl _) _
                have hMWb := hMWa.call hBn
                have hO6 := (OwnI.new1 Wa (-y)).less (C := B) hMWa.size
                have hO14 := hO14.below hBn
                go_simp
                refine hK.out _ _ (.inl (HS3.out _ _ hMWb)) (fun hU => ?_)
                clear hK K hBn hMWa
                (try simp only [Act.put, List.setIfInBounds_toArray, List.set_cons_zero, List.set_cons_succ])
                generalize Wa.alloc (.cells #[.int .i64 (-y)] 2) = Wb at *
                generalize Wa.heap.size = b6' at *
                (refine AnyS.branch (rs := [12]) (by kernel_rfl) (List.cons_ne_nil _ _) ?_; refine AllS.cons rfl ?_ AllS.nil; intro K hK)
                have hBn : Below Wb.heap.size Wb (Wb.alloc (.cells #[.int .i64 y] 2)) := (Below.refl _ _).alloc (Nat.le_refl _) _
                have hMWc := hMWb.call hBn
                have hO12 := (OwnI.new1 Wb y).less (C := B) hMWb.size
                have hO14 := hO14.below hBn
                have hO6 := hO6.below hBn
                go_simp
                refine hK.out _ _ (.inl (HS3.out _ _ hMWc)) (fun hU => ?_)
                clear hK K hBn hMWb
                (try simp only [Act.put, List.setIfInBounds_toArray, List.set_cons_zero, List.set_cons_succ])
                generalize Wb.alloc (.cells #[.int .i64 y] 2) = Wc at *
                generalize Wb.heap.size = b12 at *
              case' q_14_12 =>
                have hBn : Below Wa.heap.size Wa (Wa.alloc (.cells #[.int .i64 y] 2)) := (Below.refl _ _).alloc (Nat.le_refl _) _
                have hMWb := hMWa.call hBn
                have hO12 := (OwnI.new1 Wa y).less (C := B) hMWa.size
                have hO14 := hO14.below hBn
                go_simp
                refine hK.out _ _ (.inl (HS3.out _ _ hMWb)) (fun hU => ?_)
                clear hK K hBn hMWa
                (try simp only [Act.put, List.setIfInBounds_toArray, List.set_cons_zero, List.set_cons_succ])
                generalize Wa.alloc (.cells #[.int .i64 y] 2) = Wb at *
                generalize Wa.heap.size = b12 at *
                (refine AnyS.branch (rs := [6]) (by kernel_rfl) (List.cons_ne_nil _ _) ?_; refine AllS.cons rfl ?_ AllS.nil; intro K hK)
                have hBn : Below Wb.heap.size Wb (Wb.alloc (.cells #[.int .i64 (-y)] 2)) := (Below.refl _ _).alloc (Nat.le_refl _) _
                have hMWc := hMWb.call hBn
                have hO6 := (OwnI.new1 Wb (-y)).less (C := B) hMWb.size
                have hO14 := hO14.below hBn
                have hO12 := hO12.below hBn
                go_simp
                refine hK.out _ _ (.inl (HS3.out _ _ hMWc)) (fun hU => ?_)
                clear hK K hBn hMWb
                (try simp only [Act.put, List.setIfInBounds_toArray, List.set_cons_zero, List.set_cons_succ])
                generalize Wb.alloc (.cells #[.int .i64 (-y)] 2) = Wc at *
                generalize Wb.heap.size = b6' at *
              all_goals
                have hOx := HOX.out Wc _ hMWc
                have hJ := l02Join_any _ [[-y], x, [y], invW x] (by simp) (by simp [sumLen, invW_len]; omega) _ (slO_four _ _ _ _ _ _ _ _ _ _ _ _ hO6 hOx hO12 hO14)
                have eF : [[-y], x, [y], invW x].flatten = [-y] ++ x ++ [y] ++ invW x := by simp
                rw [eF] at hJ
                obtain ⟨a14, c14, rfl, -⟩ := id hO14.form
                have hB3 : Below Wc.heap.size Wc (Wc.alloc (.cells #[.slice (some ⟨b6', 0, none⟩) 1 1, .slice a1 x.length c1, .slice (some ⟨b12, 0, none⟩) 1 1, .slice a14 (invW x).length c14] 26)) := (Below.refl _ _).alloc (Nat.le_refl _) _
                have hM3 := hMWc.call hB3
                clear hO6 hO12 hO14 hOx eF
                (refine AnyS.branch (rs := [15]) (by kernel_rfl) (List.cons_ne_nil _ _) ?_; refine AllS.cons rfl ?_ AllS.nil; intro K hK)
                go_simp
                refine hK.out _ _ (.inl (HS3.out _ _ hM3)) (fun hU => ?_)
                clear hK K hMWc hB3
                (try simp only [Act.put, List.setIfInBounds_toArray, List.set_cons_zero, List.set_cons_succ])
                (refine AnyS.branch (rs := [16]) (by kernel_rfl) (List.cons_ne_nil _ _) ?_; refine AllS.cons rfl ?_ AllS.nil; intro K hK)
                go_simp
                refine hJ.mono ?_
                rintro e w4 ⟨v4, rfl, hb4, hO4⟩
                have hM4 := hM3.call hb4
                refine hK.out _ _ (.inl (HS3.out _ _ hM4)) (fun hU => ?_)
                clear hK K hJ hM3 hb4
                (try simp only [Act.put, List.setIfInBounds_toArray, List.set_cons_zero, List.set_cons_succ])
                obtain ⟨a4, c4, rfl, hI4⟩ := hO4.form
                have hT := HTR.out w4 a4 c4 hI4
                clear hO4 hI4
                generalize ([-y] ++ x ++ [y] ++ invW x).length = n4 at *
                (refine AnyS.branch (rs := [17]) (by kernel_rfl) (List.cons_ne_nil _ _) ?_; refine AllS.cons rfl ?_ AllS.nil; intro K hK)
                go_simp
                refine hT.mono ?_
                rintro e w5 ⟨rfl, hb5⟩
                have hM5 := hM4.call hb5
                refine hK.out _ _ (.inl (HS3.out _ _ hM5)) (fun hU => ?_)
                clear hK K hT hM4 hb5
                (try simp only [Act.put, List.setIfInBounds_toArray, List.set_cons_zero, List.set_cons_succ])
                generalize cenQ m x y = R1 at *
                (refine AnyS.take (i := 18) rfl (by kernel_rfl) (by kernel_rfl) (by kernel_rfl) (by rfl) (fun _ _ _ h => h) (by rfl) (by intro w; go_simp; with_reducible rfl) hU (fun hU => ?_); (try simp only [Act.put, List.setIfInBounds_toArray, List.set_cons_zero, List.set_cons_succ]); refine AnyS.take (i := 19) rfl (by kernel_rfl) (by kernel_rfl) (by kernel_rfl) (by rfl) (fun _ _ _ h => h) (by rfl) (by intro w; go_simp; with_reducible rfl) hU (fun hU => ?_); (try simp only [Act.put, List.setIfInBounds_toArray, List.set_cons_zero, List.set_cons_succ]); refine AnyS.take (i := 20) rfl (by kernel_rfl) (by kernel_rfl) (by kernel_rfl) (by rfl) (fun _ _ _ h => h) (by rfl) (by intro w; go_simp; with_reducible rfl) hU (fun hU => ?_); (try simp only [Act.put, List.setIfInBounds_toArray, List.set_cons_zero, List.set_cons_succ]); refine AnyS.take (i := 21) rfl (by kernel_rfl) (by kernel_rfl) (by kernel_rfl) (by rfl) (fun _ _ _ h => h) (by rfl) (by intro w; go_simp; with_reducible rfl) hU (fun hU => ?_); (try simp only [Act.put, List.setIfInBounds_toArray, List.set_cons_zero, List.set_cons_succ]); refine AnyS.take (i := 22) rfl (by kernel_rfl) (by kernel_rfl) (by kernel_rfl) (by rfl) (fun _ _ _ h => h) (by rfl) (by intro w; go_simp; with_reducible rfl) hU (fun hU => ?_); (try simp only [Act.put, List.setIfInBounds_toArray, List.set_cons_zero, List.set_cons_succ]))
                refine AnyS.done (by kernel_rfl) ?_ _
                clear hU
                have HM5 := Lib.hid hM5
                rcases HQ.out with rfl | rfl | rfl
                · have HK2 : Hid (cenK m gs x (k + 1) = (true, 0)) := HN.out
                  clear hM5 HQ HE HN
                  go_wp2_with fail
                  go_roundw
                  case rel => exact ⟨k + 1, true, by omega, rfl, by go_num, .inl ⟨rfl, HK2.out⟩, HM5.out⟩
                  case measure => simp [intOf] <;> omega
                · have HK2 := Lib.hid (HE.out _ rfl (by decide))
                  clear hM5 HQ HE HN
                  go_wp2_with fail
                  go_roundw
                  case rel => exact ⟨k + 1, false, by omega, rfl, by go_num, .inr ⟨rfl, HK2.out⟩, HM5.out⟩
                  case measure => simp [intOf] <;> omega
                · have HD := Lib.hid (HUB.out _ _ (HE.out _ rfl (by decide)) (by decide))
                  have HB := Lib.hid (HCB.out _ hM5.below).below
                  clear hM5 HQ HE HN HUB HUY HUN
                  go_wp2_with fail
                  go_ret2
                  rw [HD.out]
                  exact ⟨_, rfl, HB.out, OwnII.nil _ _ HB.out.size⟩
            · have hk' : k = gs.length := by omega
              have hK2 : cenK m gs x gs.length = (true, 0) := by rw [← hk']; exact hK
              have HU2 := Lib.hid (HUY.out hK2)
              have k2 : ¬ ((k : Int) < (gs.length : Int)) := by omega
              have hM5 := hM
              clear HUY HUN HUB hM hK hK2 HK hk'
              go_wp2_with (at_builtin; refine Mg.appendO rfl (.tmp 76) (.tmp 78) 35 rfl hM5 0 rfl Try.underlying35 hi0 hz0 hz1 hz2 rfl (by decide) [.slice a1 x.length c1] (us := #[_]) rfl rfl rfl wr.heap.size rfl rfl (by simp [Value.oneCell']) (by omega) (by omega) ?_)
              intro g8 c8 w8 hM8 hO8
              (try simp only [List.set_cons_zero] at hM8)
              have HM8 : Hid (Mg B w1 w8 [(b6, [.slice (some ⟨gw, 0, none⟩) s.length cw, .slice am s.length cm, .slice av st.length cv], 90)] (⟨.slice (some ⟨g8, 0, none⟩) (l.length + 1) c8, 26, 1, (l ++ [x]).length, rl ++ [.slice a1 x.length c1]⟩ :: ballS s (.slice (some ⟨gw, 0, none⟩) s.length cw) rw (.slice am s.length cm) (.slice av st.length cv) st)) := by
                rw [List.length_append, List.length_singleton]; exact hM8
              clear hM5 hM8 hO8
              go_wp2_with fail
              go_roundw
              case rel => exact ⟨i + 1, _, _, by omega, by go_num, HU2.out, HSY.out, HM8.out⟩
              case measure => simp [intOf] <;> omega
      · have hi' : i = s.length := by omega
        subst hi'
        have i2 : ¬ ((s.length : Int) < (s.length : Int)) := by omega
        have HD := Lib.hid (HDO.out l (by rw [HMAP.out]; exact HU.out))
        have HB := Lib.hid (HCB.out _ hM.below).below
        have HO : Hid (OwnII wr w.heap.size u9 l) := by
          have h2 := hM.sub (List.nil_sublist _)
          have h3 : Mg B w1 wr [] (((u9, 26, rl) :: rowG rl l).map Gr.of) := by
            have e : Gr.of (u9, 26, rl) = ⟨u9, 26, 1, l.length, rl⟩ := by simp [Gr.of, HS.out.1]
            rw [List.map_cons, e]
            refine h2.subG (List.Sublist.cons_cons _ ?_)
            rw [ballS]
            refine List.Sublist.cons _ (List.Sublist.cons _ (List.Sublist.cons _ (List.Sublist.map _ ?_)))
            have h4 := HS.out.2.2
            rw [List.take_of_length_le (by rw [HRW.out]; exact Nat.le_refl _), List.take_of_length_le (by rw [HMAP.out]; exact Nat.le_refl _)] at h4
            exact h4
          exact OwnII.of (h3.mm.less (Nat.le_of_lt HBW.out)) HS.out.1
        clear hM
        go_wp2_with fail
        go_ret2
        rw [HD.out]
        exact ⟨_, rfl, HB.out, HO.out⟩
end Go.Proofs.Yteagecoiijhflaa

/- How large the list of the central words is. -/
namespace Go.Proofs.Yteagecoiijhflaa
open Go.RowKit
set_option linter.unusedVariables false
set_option linter.unusedSimpArgs false

theorem cenX_fit (m : Mch) (r : Int) : (cenX m r).1.length ≤ 100000 ∧ sumLen (cenX m r).1 (cenX m r).1.length ≤ 200000 ∧ ∀ i : Nat, ((cenX m r).1[i]?.getD []).length ≤ 2000000 := by
  have h0 : ∀ c : Int, (([], c) : List Wd × Int).1.length ≤ 100000 ∧ sumLen (([], c) : List Wd × Int).1 (([], c) : List Wd × Int).1.length ≤ 200000 ∧ ∀ i : Nat, ((([], c) : List Wd × Int).1[i]?.getD []).length ≤ 2000000 := fun c => ⟨by simp, by simp [sumLen], fun i => by simp⟩
  cases h : ballI m r with
  | error c => rw [cenX_err h]; exact h0 c
  | ok p =>
    obtain ⟨s, st⟩ := p
    obtain ⟨k1, -, -⟩ := ballI_fit h
    cases h2 : cenU m (genI m).1 (s.map (·.1)) (s.map (·.1)).length with
    | error c => rw [cenX_bad h h2]; exact h0 c
    | ok l =>
      rw [cenX_ok h h2]
      have hs := cenU_sub _ (Nat.le_refl _) h2
      rw [List.take_length] at hs
      refine rows_fit (n := 5) (k := 200) (fun w hw => ?_) (Nat.le_trans hs.length_le (by simp only [List.length_map]; exact k1.many)) (by omega) (by omega) (by omega)
      obtain ⟨p, hp, rfl⟩ := List.mem_map.1 (hs.subset hw)
      exact k1.len p hp
end Go.Proofs.Yteagecoiijhflaa
