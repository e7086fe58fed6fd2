import Derived.Test.YteagecoiijhflaaZLOrderOf04
import Derived.Test.YteagecoiijhflaaZLOrderOf03
import Derived.Test.YteagecoiijhflaaZLOrderOf01
/- A machine as a table. -/
namespace Go.Proofs.Yteagecoiijhflaa
open Go.RowKit
set_option linter.unusedVariables false
set_option linter.unusedSimpArgs false

theorem Try.info2 : (Try.prog.info? 2).map (fun i => (i.zero, i.size, i.bytes)) = some (some (.int .i64 0), 1, 8) := by kernel_rfl
theorem Try.info26 : (Try.prog.info? 26).map (fun i => (i.zero, i.size, i.bytes)) = some (some (.slice none 0 0), 1, 24) := by kernel_rfl

def nxR (m : Mch) (q k : Nat) : List Int := (List.range k).map fun x => (m.nn q x : Int)
def otR (m : Mch) (q k : Nat) : List Int := (List.range k).map fun x => (m.on q x : Int)
theorem nxR_succ (m : Mch) (q k : Nat) : i64s (nxR m q (k + 1)) = i64s (nxR m q k) ++ [.int .i64 (m.nn q k : Int)] := by simp [nxR, i64s, List.range_succ]
theorem otR_succ (m : Mch) (q k : Nat) : i64s (otR m q (k + 1)) = i64s (otR m q k) ++ [.int .i64 (m.on q k : Int)] := by simp [otR, i64s, List.range_succ]
def tabN (m : Mch) (k : Nat) : List (List Value) := (List.range k).map fun q => i64s (nxR m q m.l)
def tabO (m : Mch) (k : Nat) : List (List Value) := (List.range k).map fun q => i64s (otR m q m.l)
theorem tabN_succ (m : Mch) (k : Nat) : tabN m (k + 1) = tabN m k ++ [i64s (nxR m k m.l)] := by simp [tabN, List.range_succ]
theorem tabO_succ (m : Mch) (k : Nat) : tabO m (k + 1) = tabO m k ++ [i64s (otR m k m.l)] := by simp [tabO, List.range_succ]

/-- one element in a block of its own -/
theorem one_news (w : World) (v : Value) (E : TypeId) : ∀ j u, [v][j]? = some u → (w.alloc (.cells #[v] E)).cell? ((⟨w.heap.size, 0, none⟩ : Addr).add j) = some u := by
  intro j u hj
  match j, hj with
  | 0, hj => simp at hj; subst hj; simp [Addr.add]

/-- two rows apart: behind an append to the one -/
def ApartV (v u : Value) : Prop := v.ownBlock = none ∨ v.ownBlock ≠ u.ownBlock
theorem ApartV.symm' {v u : Value} (h : ApartV v u) : ApartV u v := by
  rcases h with h | h
  · by_cases e : u.ownBlock = none
    · exact .inl e
    · exact .inr (by rw [h]; exact e)
  · exact .inr (Ne.symm h)
theorem own_apart {W w1 : World} {B C E F n k g : Nat} {v u : Value} {xs ys : List Value} (h5 : W.ownsRow B E 1 v n xs) (h6 : W.ownsRow C F 1 u k ys) (hne : ApartV v u)
    (hg : W.grownBy w1 v.ownBlock) {H : Nat} (hH : W.heap.size = H) (hl : v.ownBlock = some g ∨ g = H) (n' cap : Nat) : w1.ownsRow C F 1 u k ys ∧ ApartV (.slice (some ⟨g, 0, none⟩) n' cap) u := by
  refine ⟨h6.kept hg hne.symm', .inr ?_⟩
  intro e
  simp only [Value.ownBlock] at e
  rcases hl with hl | hl
  · rcases hne with e' | e'
    · rw [e'] at hl; cases hl
    · rw [hl] at e'; exact e' e
  · have := (h6.lt g e.symm).2; omega

set_option maxRecDepth 100000 in
set_option maxHeartbeats 4000000 in
theorem table_any (b o : Nat) (m : Mch) (hwf : m.Wf) (hok : m.Ok) (w : World) (hm : MAt w b o m) :
    Calls Try.prog 104 #[.pointer (some ⟨b, o, none⟩)] w (fun e w' => ∃ T, e = .returned (.pointer (some ⟨T, 0, none⟩)) ∧ Below w.heap.size w w' ∧ Tab w.heap.size w' T (tabN m m.s) (tabO m m.s)) := by
  obtain ⟨i0, hi, hz0, hz1, hz2⟩ := info_parts Try.info2
  obtain ⟨j0, hj, hy0, hy1, hy2⟩ := info_parts Try.info26
  have hs16 := hok.s_le
  have hl3 := hok.l_le
  have hl2 := hok.l_ge
  have hcs : w.cell? ⟨b, o + 1, none⟩ = some (.int .i64 (m.s : Int)) := by rw [← hok.S_eq]; exact hm.s
  have hbw : b < w.heap.size := World.block_lt_of_cell? w ⟨b, o, none⟩ hm.l
  go_enter Try.func104, Try.ntmps104
  go_wp2
  go_loopw [14] (fun i wr => ∃ k : Nat, k ≤ m.s ∧ i = .int .i64 k ∧ Below w.heap.size w wr ∧ Tab w.heap.size wr w.heap.size (tabN m k) (tabO m k)) (fun i _ => m.s - (intOf i).toNat)
  case atStart => exact ⟨0, Nat.zero_le _, rfl, boxedBelow _ _ _, Tab.start (Blk.new _ _ _) (by simp)⟩
  case round =>
    obtain ⟨k, hk, rfl, hbr, hT⟩ := hrel
    obtain ⟨wo, rfl⟩ : ∃ wo : World, wo = wr := ⟨_, rfl⟩
    have hmr := hm.below hbr hbw
    by_cases hlt : k < m.s
    · have hcl : wo.cell? ⟨b, o, none⟩ = some (.int .i64 (m.l : Int)) := by rw [← hok.L_eq]; exact hmr.l
      go_wp2
      go_loopw [5, 6, 21] (fun v5 v6 i wi => ∃ x : Nat, x ≤ m.l ∧ i = .int .i64 x ∧ wi.ownsRow wo.heap.size 2 1 v5 x (i64s (nxR m k x)) ∧ wi.ownsRow wo.heap.size 2 1 v6 x (i64s (otR m k x)) ∧
        ApartV v5 v6 ∧ Below wo.heap.size wo wi) (fun _ _ i _ => m.l - (intOf i).toNat)
      case atStart => exact ⟨0, Nat.zero_le _, rfl, World.ownsRow_nil _ _ _ _, World.ownsRow_nil _ _ _ _, .inl rfl, Below.refl _ _⟩
      case round =>
        obtain ⟨x, hx, rfl, h5, h6, hne, hbi⟩ := hrel
        by_cases hxlt : x < m.l
        · have hmi := hmr.keep hbi hwf
          have EO := Lib.hid (hok.o_eq hwf hlt hxlt)
          have EN := Lib.hid (hok.n_eq hwf hlt hxlt)
          have NS := Lib.hid (nxR_succ m k x)
          have OS := Lib.hid (otR_succ m k x)
          go_wp2_with fail
          refine (next_any b o m hwf _ _ (by omega) (by omega) _ hmi).mono ?_
          rintro e w' ⟨rfl, rfl⟩
          rw [Int.toNat_natCast, Int.toNat_natCast, EN.out]
          go_wp2_with (at_builtin; refine wpList_append_lies _ rfl (.tmp 24) (.tmp 29) 26 rfl wo.heap.size 2 i0 (.int .i64 0) 1 8 Try.underlying26 hi hz0 hz1 hz2 rfl (by decide) _ _ _ rfl (h5.alloc _) ⟨_, 0, none⟩ 1 1 [.int .i64 (m.nn k x : Int)] rfl rfl (one_news _ _ _) (by simp [Value.oneCell']) (by omega) ?c3 ?c4 ?c5 _ rfl ?_)
          case c3 => simp [maxLen]; omega
          case c4 => omega
          case c5 => have := hbi.size; simp; omega
          intro g cap w1 hown hgrow hlies hlt1
          obtain ⟨hb1, hsz1, -⟩ := grown_below hbi h5 (Nat.le_refl _) hbi.size hgrow
          obtain ⟨h6', hne'⟩ := own_apart (h5.alloc _) (h6.alloc _) hne hgrow (by simp) hlies (x + 1) cap
          have hm1 := hmr.keep hb1 hwf
          rw [← NS.out] at hown
          clear h5 h6 hne hgrow hlies hlt1 hbi NS EN hmi
          go_wp2_with fail
          refine (out_any b o m hwf _ _ (by omega) (by omega) _ hm1).mono ?_
          rintro e w' ⟨rfl, rfl⟩
          rw [Int.toNat_natCast, Int.toNat_natCast, EO.out]
          go_wp2_with (at_builtin; refine wpList_append_lies _ rfl (.tmp 31) (.tmp 36) 26 rfl wo.heap.size 2 i0 (.int .i64 0) 1 8 Try.underlying26 hi hz0 hz1 hz2 rfl (by decide) _ _ _ rfl (h6'.alloc _) ⟨_, 0, none⟩ 1 1 [.int .i64 (m.on k x : Int)] rfl rfl (one_news _ _ _) (by simp [Value.oneCell']) (by omega) ?c3 ?c4 ?c5 _ rfl ?_)
          case c3 => simp [maxLen]; omega
          case c4 => omega
          case c5 => have := hb1.size; simp; omega
          intro g2 cap2 w2 hown2 hgrow2 hlies2 hlt2
          obtain ⟨hb2, hsz2, -⟩ := grown_below hb1 h6' (Nat.le_refl _) hb1.size hgrow2
          obtain ⟨h5', hne2⟩ := own_apart (h6'.alloc _) (hown.alloc _) hne'.symm' hgrow2 (by simp) hlies2 (x + 1) cap2
          rw [← OS.out] at hown2
          clear h6' hne' hgrow2 hlies2 hlt2 hb1 OS EO hm1 hown
          go_wp2
          go_roundw
          case rel => exact ⟨x + 1, by omega, by go_num, h5', hown2, hne2.symm', hb2⟩
          case measure => simp [intOf]; omega
        · have hx' : x = m.l := by omega
          subst hx'
          have r5 := RowV.of_own (xs := i64s (nxR m k m.l)) (by simpa [i64s, nxR] using h5) (by simp [i64s, nxR]; omega)
          have r6 := RowV.of_own (xs := i64s (otR m k m.l)) (by simpa [i64s, otR] using h6) (by simp [i64s, otR]; omega)
          obtain ⟨vN, vO, rN, rO, hTM⟩ := hT.more hbi r5 r6
          obtain ⟨g5, c5, e5, -⟩ := r5.cell
          obtain ⟨g6, c6, e6, -⟩ := r6.cell
          subst e5 e6
          have hb2 := hbr.trans (hbi.mono hbr.size)
          clear h5 h6 hne hbi r5 r6 hT hmr hcl
          go_wp2
          have hTd := hTM.drew
          refine region_S (fun w' => w'.cell? ⟨w.heap.size, 0, none⟩ = some vN ∧ w'.cell? ⟨w.heap.size, 1, none⟩ = some vO) [18, 21] 22 rfl (by kernel_rfl) ⟨hTd.blk.cell' (by rfl), hTd.blk.cell' (by rfl)⟩ (fun hU => ?_)
          refine AnyS.take (i := 0) rfl (by kernel_rfl) (by kernel_rfl) (by kernel_rfl) (by rfl) (fun _ _ _ h => h) (by rfl) (by intro w; go_simp; with_reducible rfl) hU (fun hU => ?_)
          try simp only [Act.put, List.setIfInBounds_toArray, List.set_cons_zero, List.set_cons_succ]
          refine AnyS.take (i := 1) rfl (by kernel_rfl) (by kernel_rfl) (by kernel_rfl) (by rfl) (fun _ _ _ h => h) (by rfl) (by intro w; go_simp; with_reducible rfl) hU (fun hU => ?_)
          try simp only [Act.put, List.setIfInBounds_toArray, List.set_cons_zero, List.set_cons_succ]
          refine AnyS.take (i := 2) rfl (by kernel_rfl) (by kernel_rfl) (by kernel_rfl) (by rfl) (fun _ _ _ h => h) (by rfl) (by intro w; go_simp; with_reducible rfl) hU (fun hU => ?_)
          try simp only [Act.put, List.setIfInBounds_toArray, List.set_cons_zero, List.set_cons_succ]
          refine AnyS.take (i := 3) rfl (by kernel_rfl) (by kernel_rfl) (by kernel_rfl) (by rfl) (fun _ _ _ h => h) (by rfl) (by intro w; go_simp; with_reducible rfl) hU (fun hU => ?_)
          try simp only [Act.put, List.setIfInBounds_toArray, List.set_cons_zero, List.set_cons_succ]
          refine AnyS.take (i := 4) rfl (by kernel_rfl) (by kernel_rfl) (by kernel_rfl) (by rfl) (fun _ _ _ h => h) (by rfl) (by intro w; go_simp; with_reducible rfl) hU (fun hU => ?_)
          try simp only [Act.put, List.setIfInBounds_toArray, List.set_cons_zero, List.set_cons_succ]
          refine AnyS.takeS (i := 5) rfl (by kernel_rfl) (by kernel_rfl) (by kernel_rfl) (by rfl) (by kernel_rfl) (by kernel_rfl) (fun _ _ _ h => h) (by rfl) (by intro w hSw; obtain ⟨hc0, hc1⟩ := hSw; go_simp; with_reducible rfl) hU (fun hU => ?_)
          try simp only [Act.put, List.setIfInBounds_toArray, List.set_cons_zero, List.set_cons_succ]
          refine AnyS.take (i := 6) rfl (by kernel_rfl) (by kernel_rfl) (by kernel_rfl) (by rfl) (fun _ _ _ h => h) (by rfl) (by intro w; go_simp; with_reducible rfl) hU (fun hU => ?_)
          try simp only [Act.put, List.setIfInBounds_toArray, List.set_cons_zero, List.set_cons_succ]
          refine AnyS.take (i := 9) rfl (by kernel_rfl) (by kernel_rfl) (by kernel_rfl) (by rfl) (fun _ _ _ h => h) (by rfl) (by intro w; go_simp; with_reducible rfl) hU (fun hU => ?_)
          try simp only [Act.put, List.setIfInBounds_toArray, List.set_cons_zero, List.set_cons_succ]
          refine AnyS.take (i := 10) rfl (by kernel_rfl) (by kernel_rfl) (by kernel_rfl) (by rfl) (fun _ _ _ h => h) (by rfl) (by intro w; go_simp; with_reducible rfl) hU (fun hU => ?_)
          try simp only [Act.put, List.setIfInBounds_toArray, List.set_cons_zero, List.set_cons_succ]
          refine AnyS.take (i := 11) rfl (by kernel_rfl) (by kernel_rfl) (by kernel_rfl) (by rfl) (fun _ _ _ h => h) (by rfl) (by intro w; go_simp; with_reducible rfl) hU (fun hU => ?_)
          try simp only [Act.put, List.setIfInBounds_toArray, List.set_cons_zero, List.set_cons_succ]
          refine AnyS.takeS (i := 12) rfl (by kernel_rfl) (by kernel_rfl) (by kernel_rfl) (by rfl) (by kernel_rfl) (by kernel_rfl) (fun _ _ _ h => h) (by rfl) (by intro w hSw; obtain ⟨hc0, hc1⟩ := hSw; go_simp; with_reducible rfl) hU (fun hU => ?_)
          try simp only [Act.put, List.setIfInBounds_toArray, List.set_cons_zero, List.set_cons_succ]
          refine AnyS.take (i := 13) rfl (by kernel_rfl) (by kernel_rfl) (by kernel_rfl) (by rfl) (fun _ _ _ h => h) (by rfl) (by intro w; go_simp; with_reducible rfl) hU (fun hU => ?_)
          try simp only [Act.put, List.setIfInBounds_toArray, List.set_cons_zero, List.set_cons_succ]
          obtain ⟨W, eW⟩ : ∃ W : World, W = wr.drew := ⟨_, rfl⟩
          rw [← eW] at hU hTd ⊢
          have hT := hTd
          have hB : Below w.heap.size w W := by rw [eW]; exact hb2.drew
          clear hTd hTM hb2 eW
          refine AnyS.branch (rs := [7, 14]) (by kernel_rfl) (by simp) (AllS.cons rfl (fun K hK => ?_) (AllS.cons rfl (fun K hK => ?_) AllS.nil))
          · skip
            go_simp
            obtain ⟨bN, ebN⟩ : ∃ t, t = W.heap.size := ⟨_, rfl⟩
            rw [← ebN]
            refine Shut.abs hK (fun W => TabM w.heap.size W w.heap.size vN vO vN vO rN rO (tabN m k) (tabO m k) (.slice (some ⟨g5, 0, none⟩) (i64s (nxR m k m.l)).length c5) (i64s (nxR m k m.l)) (.slice (some ⟨g6, 0, none⟩) (i64s (otR m k m.l)).length c6) (i64s (otR m k m.l)) ∧ Below w.heap.size w W ∧ TmpB W bN (.slice (some ⟨g5, 0, none⟩) (i64s (nxR m k m.l)).length c5) vN vO) ⟨hT.alloc _, hB.alloc hT.bs _, by rw [ebN]; exact hT.tmp _⟩ (fun W h => ⟨h.1.blk.cell' (by rfl), h.1.blk.cell' (by rfl)⟩) ?_
            clear hK K hT hB hU ebN 
            rintro W ⟨hT, hB, hbN⟩ hU
            refine AnyS.branch (rs := [8, 14]) (by kernel_rfl) (by simp) (AllS.cons rfl (fun K hK => ?_) (AllS.cons rfl (fun K hK => ?_) AllS.nil))
            · skip
              refine step_append_lies _ rfl (.tmp 44) (.tmp 46) 35 rfl w.heap.size 26 j0 (.slice none 0 0) 1 24 Try.underlying35 hj hy0 hy1 hy2 rfl (by decide) vN rN.length rN rfl hT.oN ⟨bN, 0, none⟩ 1 1 [(.slice (some ⟨g5, 0, none⟩) (i64s (nxR m k m.l)).length c5)] rfl rfl hbN.news (by simp [Value.oneCell']) (by omega) (by have := hT.rowsN.1; simp [tabN, tabO, maxLen] at this ⊢; omega) (by have := hT.rowsN.1; simp [tabN, tabO] at this; omega) hT.bs _ rfl ?_
              intro gN capN W1 hown hgrow hlies hltN
              obtain ⟨vN', evN⟩ : ∃ v, v = Value.slice (some ⟨gN, 0, none⟩) (rN.length + 1) capN := ⟨_, rfl⟩
              rw [← evN]
              refine Shut.abs hK (fun W => TabM w.heap.size W w.heap.size vN vO vN' vO (rN ++ [(.slice (some ⟨g5, 0, none⟩) (i64s (nxR m k m.l)).length c5)]) rO (tabN m k ++ [i64s (nxR m k m.l)]) (tabO m k) (.slice (some ⟨g5, 0, none⟩) (i64s (nxR m k m.l)).length c5) (i64s (nxR m k m.l)) (.slice (some ⟨g6, 0, none⟩) (i64s (otR m k m.l)).length c6) (i64s (otR m k m.l)) ∧ Below w.heap.size w W) ⟨hT.appN evN (by rw [evN]; exact hown) hgrow hlies, hT.belN hB hgrow⟩ (fun W h => ⟨h.1.blk.cell' (by rfl), h.1.blk.cell' (by rfl)⟩) ?_
              clear hK K hT hB hU hown hgrow hlies hltN hbN
              rintro W ⟨hT, hB⟩ hU
              refine AnyS.branch (rs := [14]) (by kernel_rfl) (by simp) (AllS.cons rfl (fun K hK => ?_) AllS.nil)
              · skip
                go_simp
                obtain ⟨bO, ebO⟩ : ∃ t, t = W.heap.size := ⟨_, rfl⟩
                rw [← ebO]
                refine Shut.abs hK (fun W => TabM w.heap.size W w.heap.size vN vO vN' vO (rN ++ [(.slice (some ⟨g5, 0, none⟩) (i64s (nxR m k m.l)).length c5)]) rO (tabN m k ++ [i64s (nxR m k m.l)]) (tabO m k) (.slice (some ⟨g5, 0, none⟩) (i64s (nxR m k m.l)).length c5) (i64s (nxR m k m.l)) (.slice (some ⟨g6, 0, none⟩) (i64s (otR m k m.l)).length c6) (i64s (otR m k m.l)) ∧ Below w.heap.size w W ∧ TmpB W bO (.slice (some ⟨g6, 0, none⟩) (i64s (otR m k m.l)).length c6) vN' vO) ⟨hT.alloc _, hB.alloc hT.bs _, by rw [ebO]; exact hT.tmp _⟩ (fun W h => ⟨h.1.blk.cell' (by rfl), h.1.blk.cell' (by rfl)⟩) ?_
                clear hK K hT hB hU ebO 
                rintro W ⟨hT, hB, hbO⟩ hU
                refine AnyS.branch (rs := [15]) (by kernel_rfl) (by simp) (AllS.cons rfl (fun K hK => ?_) AllS.nil)
                · skip
                  refine step_append_lies _ rfl (.tmp 51) (.tmp 53) 35 rfl w.heap.size 26 j0 (.slice none 0 0) 1 24 Try.underlying35 hj hy0 hy1 hy2 rfl (by decide) vO rO.length rO rfl hT.oO ⟨bO, 0, none⟩ 1 1 [(.slice (some ⟨g6, 0, none⟩) (i64s (otR m k m.l)).length c6)] rfl rfl hbO.news (by simp [Value.oneCell']) (by omega) (by have := hT.rowsO.1; simp [tabN, tabO, maxLen] at this ⊢; omega) (by have := hT.rowsO.1; simp [tabN, tabO] at this; omega) hT.bs _ rfl ?_
                  intro gO capO W1 hown hgrow hlies hltO
                  obtain ⟨vO', evO⟩ : ∃ v, v = Value.slice (some ⟨gO, 0, none⟩) (rO.length + 1) capO := ⟨_, rfl⟩
                  rw [← evO]
                  refine Shut.abs hK (fun W => TabM w.heap.size W w.heap.size vN vO vN' vO' (rN ++ [(.slice (some ⟨g5, 0, none⟩) (i64s (nxR m k m.l)).length c5)]) (rO ++ [(.slice (some ⟨g6, 0, none⟩) (i64s (otR m k m.l)).length c6)]) (tabN m k ++ [i64s (nxR m k m.l)]) (tabO m k ++ [i64s (otR m k m.l)]) (.slice (some ⟨g5, 0, none⟩) (i64s (nxR m k m.l)).length c5) (i64s (nxR m k m.l)) (.slice (some ⟨g6, 0, none⟩) (i64s (otR m k m.l)).length c6) (i64s (otR m k m.l)) ∧ Below w.heap.size w W) ⟨hT.appO evO (by rw [evO]; exact hown) hgrow hlies, hT.belO hB hgrow⟩ (fun W h => ⟨h.1.blk.cell' (by rfl), h.1.blk.cell' (by rfl)⟩) ?_
                  clear hK K hT hB hU hown hgrow hlies hltO hbO
                  rintro W ⟨hT, hB⟩ hU
                  refine AnyS.take (i := 16) rfl (by kernel_rfl) (by kernel_rfl) (by kernel_rfl) (by rfl) (fun _ _ _ h => h) (by rfl) (by intro w; go_simp; with_reducible rfl) hU (fun hU => ?_)
                  try simp only [Act.put, List.setIfInBounds_toArray, List.set_cons_zero, List.set_cons_succ]
                  refine AnyS.take (i := 17) rfl (by kernel_rfl) (by kernel_rfl) (by kernel_rfl) (by rfl) (fun _ _ _ h => h) (by rfl) (by intro w; go_simp; with_reducible rfl) hU (fun hU => ?_)
                  try simp only [Act.put, List.setIfInBounds_toArray, List.set_cons_zero, List.set_cons_succ]
                  refine AnyS.branch (rs := [18]) (by kernel_rfl) (by simp) (AllS.cons rfl (fun K hK => ?_) AllS.nil)
                  have c0 : W.cell? ⟨w.heap.size, 0, none⟩ = some vN := hT.blk.cell' rfl
                  have f0 := hT.blk.free 0
                  subst evN evO
                  go_simp
                  refine hK.out _ _ (.inr ⟨18, by simp, by rfl⟩) (fun hU => ?_)
                  clear hK K c0 f0
                  refine AnyS.take (i := 19) rfl (by kernel_rfl) (by kernel_rfl) (by kernel_rfl) (by rfl) (fun _ _ _ h => h) (by rfl) (by intro w; go_simp; with_reducible rfl) hU (fun hU => ?_)
                  try simp only [Act.put, List.setIfInBounds_toArray, List.set_cons_zero, List.set_cons_succ]
                  refine AnyS.take (i := 20) rfl (by kernel_rfl) (by kernel_rfl) (by kernel_rfl) (by rfl) (fun _ _ _ h => h) (by rfl) (by intro w; go_simp; with_reducible rfl) hU (fun hU => ?_)
                  try simp only [Act.put, List.setIfInBounds_toArray, List.set_cons_zero, List.set_cons_succ]
                  refine AnyS.branch (rs := [21]) (by kernel_rfl) (by simp) (AllS.cons rfl (fun K hK => ?_) AllS.nil)
                  have h1 := hT.blk.setCell 0 (.slice (some ⟨gN, 0, none⟩) (rN.length + 1) capN)
                  have c1 : (W.setCell ⟨w.heap.size, 0, none⟩ (.slice (some ⟨gN, 0, none⟩) (rN.length + 1) capN)).cell? ⟨w.heap.size, 1, none⟩ = some vO := h1.cell' rfl
                  have f1 := h1.free 1
                  go_simp
                  refine hK.out _ _ (.inr ⟨18, by simp, by rfl⟩) (fun hU => ?_)
                  clear hK K c1 f1 hU h1
                  refine AnyS.done (by kernel_rfl) ?_ _
                  have hTE := hT.store.tab
                  rw [← tabN_succ, ← tabO_succ] at hTE
                  have hBE := (hB.setCell (p := ⟨w.heap.size, 0, none⟩) (Nat.le_refl _) (.slice (some ⟨gN, 0, none⟩) (rN.length + 1) capN)).setCell (p := ⟨w.heap.size, 1, none⟩) (Nat.le_refl _) (.slice (some ⟨gO, 0, none⟩) (rO.length + 1) capO)
                  clear hT hB
                  go_wp2
                  go_roundw
                  case rel => exact ⟨k + 1, by omega, by go_num, hBE, hTE⟩
                  case measure => simp [intOf]; omega
            · skip
              go_simp
              obtain ⟨bO, ebO⟩ : ∃ t, t = W.heap.size := ⟨_, rfl⟩
              rw [← ebO]
              refine Shut.abs hK (fun W => TabM w.heap.size W w.heap.size vN vO vN vO rN rO (tabN m k) (tabO m k) (.slice (some ⟨g5, 0, none⟩) (i64s (nxR m k m.l)).length c5) (i64s (nxR m k m.l)) (.slice (some ⟨g6, 0, none⟩) (i64s (otR m k m.l)).length c6) (i64s (otR m k m.l)) ∧ Below w.heap.size w W ∧ TmpB W bN (.slice (some ⟨g5, 0, none⟩) (i64s (nxR m k m.l)).length c5) vN vO ∧ TmpB W bO (.slice (some ⟨g6, 0, none⟩) (i64s (otR m k m.l)).length c6) vN vO) ⟨hT.alloc _, hB.alloc hT.bs _, hbN.alloc _, by rw [ebO]; exact hT.tmp _⟩ (fun W h => ⟨h.1.blk.cell' (by rfl), h.1.blk.cell' (by rfl)⟩) ?_
              clear hK K hT hB hU ebO hbN
              rintro W ⟨hT, hB, hbN, hbO⟩ hU
              refine AnyS.branch (rs := [8]) (by kernel_rfl) (by simp) (AllS.cons rfl (fun K hK => ?_) AllS.nil)
              · skip
                refine step_append_lies _ rfl (.tmp 44) (.tmp 46) 35 rfl w.heap.size 26 j0 (.slice none 0 0) 1 24 Try.underlying35 hj hy0 hy1 hy2 rfl (by decide) vN rN.length rN rfl hT.oN ⟨bN, 0, none⟩ 1 1 [(.slice (some ⟨g5, 0, none⟩) (i64s (nxR m k m.l)).length c5)] rfl rfl hbN.news (by simp [Value.oneCell']) (by omega) (by have := hT.rowsN.1; simp [tabN, tabO, maxLen] at this ⊢; omega) (by have := hT.rowsN.1; simp [tabN, tabO] at this; omega) hT.bs _ rfl ?_
                intro gN capN W1 hown hgrow hlies hltN
                obtain ⟨vN', evN⟩ : ∃ v, v = Value.slice (some ⟨gN, 0, none⟩) (rN.length + 1) capN := ⟨_, rfl⟩
                rw [← evN]
                refine Shut.abs hK (fun W => TabM w.heap.size W w.heap.size vN vO vN' vO (rN ++ [(.slice (some ⟨g5, 0, none⟩) (i64s (nxR m k m.l)).length c5)]) rO (tabN m k ++ [i64s (nxR m k m.l)]) (tabO m k) (.slice (some ⟨g5, 0, none⟩) (i64s (nxR m k m.l)).length c5) (i64s (nxR m k m.l)) (.slice (some ⟨g6, 0, none⟩) (i64s (otR m k m.l)).length c6) (i64s (otR m k m.l)) ∧ Below w.heap.size w W ∧ TmpB W bO (.slice (some ⟨g6, 0, none⟩) (i64s (otR m k m.l)).length c6) vN' vO) ⟨hT.appN evN (by rw [evN]; exact hown) hgrow hlies, hT.belN hB hgrow, by rw [evN]; exact hbO.appN hgrow hlies⟩ (fun W h => ⟨h.1.blk.cell' (by rfl), h.1.blk.cell' (by rfl)⟩) ?_
                clear hK K hT hB hU hown hgrow hlies hltN hbN hbO
                rintro W ⟨hT, hB, hbO⟩ hU
                refine AnyS.branch (rs := [15]) (by kernel_rfl) (by simp) (AllS.cons rfl (fun K hK => ?_) AllS.nil)
                · skip
                  refine step_append_lies _ rfl (.tmp 51) (.tmp 53) 35 rfl w.heap.size 26 j0 (.slice none 0 0) 1 24 Try.underlying35 hj hy0 hy1 hy2 rfl (by decide) vO rO.length rO rfl hT.oO ⟨bO, 0, none⟩ 1 1 [(.slice (some ⟨g6, 0, none⟩) (i64s (otR m k m.l)).length c6)] rfl rfl hbO.news (by simp [Value.oneCell']) (by omega) (by have := hT.rowsO.1; simp [tabN, tabO, maxLen] at this ⊢; omega) (by have := hT.rowsO.1; simp [tabN, tabO] at this; omega) hT.bs _ rfl ?_
                  intro gO capO W1 hown hgrow hlies hltO
                  obtain ⟨vO', evO⟩ : ∃ v, v = Value.slice (some ⟨gO, 0, none⟩) (rO.length + 1) capO := ⟨_, rfl⟩
                  rw [← evO]
                  refine Shut.abs hK (fun W => TabM w.heap.size W w.heap.size vN vO vN' vO' (rN ++ [(.slice (some ⟨g5, 0, none⟩) (i64s (nxR m k m.l)).length c5)]) (rO ++ [(.slice (some ⟨g6, 0, none⟩) (i64s (otR m k m.l)).length c6)]) (tabN m k ++ [i64s (nxR m k m.l)]) (tabO m k ++ [i64s (otR m k m.l)]) (.slice (some ⟨g5, 0, none⟩) (i64s (nxR m k m.l)).length c5) (i64s (nxR m k m.l)) (.slice (some ⟨g6, 0, none⟩) (i64s (otR m k m.l)).length c6) (i64s (otR m k m.l)) ∧ Below w.heap.size w W) ⟨hT.appO evO (by rw [evO]; exact hown) hgrow hlies, hT.belO hB hgrow⟩ (fun W h => ⟨h.1.blk.cell' (by rfl), h.1.blk.cell' (by rfl)⟩) ?_
                  clear hK K hT hB hU hown hgrow hlies hltO hbO
                  rintro W ⟨hT, hB⟩ hU
                  refine AnyS.take (i := 16) rfl (by kernel_rfl) (by kernel_rfl) (by kernel_rfl) (by rfl) (fun _ _ _ h => h) (by rfl) (by intro w; go_simp; with_reducible rfl) hU (fun hU => ?_)
                  try simp only [Act.put, List.setIfInBounds_toArray, List.set_cons_zero, List.set_cons_succ]
                  refine AnyS.take (i := 17) rfl (by kernel_rfl) (by kernel_rfl) (by kernel_rfl) (by rfl) (fun _ _ _ h => h) (by rfl) (by intro w; go_simp; with_reducible rfl) hU (fun hU => ?_)
                  try simp only [Act.put, List.setIfInBounds_toArray, List.set_cons_zero, List.set_cons_succ]
                  refine AnyS.branch (rs := [18]) (by kernel_rfl) (by simp) (AllS.cons rfl (fun K hK => ?_) AllS.nil)
                  have c0 : W.cell? ⟨w.heap.size, 0, none⟩ = some vN := hT.blk.cell' rfl
                  have f0 := hT.blk.free 0
                  subst evN evO
                  go_simp
                  refine hK.out _ _ (.inr ⟨18, by simp, by rfl⟩) (fun hU => ?_)
                  clear hK K c0 f0
                  refine AnyS.take (i := 19) rfl (by kernel_rfl) (by kernel_rfl) (by kernel_rfl) (by rfl) (fun _ _ _ h => h) (by rfl) (by intro w; go_simp; with_reducible rfl) hU (fun hU => ?_)
                  try simp only [Act.put, List.setIfInBounds_toArray, List.set_cons_zero, List.set_cons_succ]
                  refine AnyS.take (i := 20) rfl (by kernel_rfl) (by kernel_rfl) (by kernel_rfl) (by rfl) (fun _ _ _ h => h) (by rfl) (by intro w; go_simp; with_reducible rfl) hU (fun hU => ?_)
                  try simp only [Act.put, List.setIfInBounds_toArray, List.set_cons_zero, List.set_cons_succ]
                  refine AnyS.branch (rs := [21]) (by kernel_rfl) (by simp) (AllS.cons rfl (fun K hK => ?_) AllS.nil)
                  have h1 := hT.blk.setCell 0 (.slice (some ⟨gN, 0, none⟩) (rN.length + 1) capN)
                  have c1 : (W.setCell ⟨w.heap.size, 0, none⟩ (.slice (some ⟨gN, 0, none⟩) (rN.length + 1) capN)).cell? ⟨w.heap.size, 1, none⟩ = some vO := h1.cell' rfl
                  have f1 := h1.free 1
                  go_simp
                  refine hK.out _ _ (.inr ⟨18, by simp, by rfl⟩) (fun hU => ?_)
                  clear hK K c1 f1 hU h1
                  refine AnyS.done (by kernel_rfl) ?_ _
                  have hTE := hT.store.tab
                  rw [← tabN_succ, ← tabO_succ] at hTE
                  have hBE := (hB.setCell (p := ⟨w.heap.size, 0, none⟩) (Nat.le_refl _) (.slice (some ⟨gN, 0, none⟩) (rN.length + 1) capN)).setCell (p := ⟨w.heap.size, 1, none⟩) (Nat.le_refl _) (.slice (some ⟨gO, 0, none⟩) (rO.length + 1) capO)
                  clear hT hB
                  go_wp2
                  go_roundw
                  case rel => exact ⟨k + 1, by omega, by go_num, hBE, hTE⟩
                  case measure => simp [intOf]; omega
          · skip
            go_simp
            obtain ⟨bO, ebO⟩ : ∃ t, t = W.heap.size := ⟨_, rfl⟩
            rw [← ebO]
            refine Shut.abs hK (fun W => TabM w.heap.size W w.heap.size vN vO vN vO rN rO (tabN m k) (tabO m k) (.slice (some ⟨g5, 0, none⟩) (i64s (nxR m k m.l)).length c5) (i64s (nxR m k m.l)) (.slice (some ⟨g6, 0, none⟩) (i64s (otR m k m.l)).length c6) (i64s (otR m k m.l)) ∧ Below w.heap.size w W ∧ TmpB W bO (.slice (some ⟨g6, 0, none⟩) (i64s (otR m k m.l)).length c6) vN vO) ⟨hT.alloc _, hB.alloc hT.bs _, by rw [ebO]; exact hT.tmp _⟩ (fun W h => ⟨h.1.blk.cell' (by rfl), h.1.blk.cell' (by rfl)⟩) ?_
            clear hK K hT hB hU ebO 
            rintro W ⟨hT, hB, hbO⟩ hU
            refine AnyS.branch (rs := [7]) (by kernel_rfl) (by simp) (AllS.cons rfl (fun K hK => ?_) AllS.nil)
            · skip
              go_simp
              obtain ⟨bN, ebN⟩ : ∃ t, t = W.heap.size := ⟨_, rfl⟩
              rw [← ebN]
              refine Shut.abs hK (fun W => TabM w.heap.size W w.heap.size vN vO vN vO rN rO (tabN m k) (tabO m k) (.slice (some ⟨g5, 0, none⟩) (i64s (nxR m k m.l)).length c5) (i64s (nxR m k m.l)) (.slice (some ⟨g6, 0, none⟩) (i64s (otR m k m.l)).length c6) (i64s (otR m k m.l)) ∧ Below w.heap.size w W ∧ TmpB W bO (.slice (some ⟨g6, 0, none⟩) (i64s (otR m k m.l)).length c6) vN vO ∧ TmpB W bN (.slice (some ⟨g5, 0, none⟩) (i64s (nxR m k m.l)).length c5) vN vO) ⟨hT.alloc _, hB.alloc hT.bs _, hbO.alloc _, by rw [ebN]; exact hT.tmp _⟩ (fun W h => ⟨h.1.blk.cell' (by rfl), h.1.blk.cell' (by rfl)⟩) ?_
              clear hK K hT hB hU ebN hbO
              rintro W ⟨hT, hB, hbO, hbN⟩ hU
              refine AnyS.branch (rs := [8]) (by kernel_rfl) (by simp) (AllS.cons rfl (fun K hK => ?_) AllS.nil)
              · skip
                refine step_append_lies _ rfl (.tmp 44) (.tmp 46) 35 rfl w.heap.size 26 j0 (.slice none 0 0) 1 24 Try.underlying35 hj hy0 hy1 hy2 rfl (by decide) vN rN.length rN rfl hT.oN ⟨bN, 0, none⟩ 1 1 [(.slice (some ⟨g5, 0, none⟩) (i64s (nxR m k m.l)).length c5)] rfl rfl hbN.news (by simp [Value.oneCell']) (by omega) (by have := hT.rowsN.1; simp [tabN, tabO, maxLen] at this ⊢; omega) (by have := hT.rowsN.1; simp [tabN, tabO] at this; omega) hT.bs _ rfl ?_
                intro gN capN W1 hown hgrow hlies hltN
                obtain ⟨vN', evN⟩ : ∃ v, v = Value.slice (some ⟨gN, 0, none⟩) (rN.length + 1) capN := ⟨_, rfl⟩
                rw [← evN]
                refine Shut.abs hK (fun W => TabM w.heap.size W w.heap.size vN vO vN' vO (rN ++ [(.slice (some ⟨g5, 0, none⟩) (i64s (nxR m k m.l)).length c5)]) rO (tabN m k ++ [i64s (nxR m k m.l)]) (tabO m k) (.slice (some ⟨g5, 0, none⟩) (i64s (nxR m k m.l)).length c5) (i64s (nxR m k m.l)) (.slice (some ⟨g6, 0, none⟩) (i64s (otR m k m.l)).length c6) (i64s (otR m k m.l)) ∧ Below w.heap.size w W ∧ TmpB W bO (.slice (some ⟨g6, 0, none⟩) (i64s (otR m k m.l)).length c6) vN' vO) ⟨hT.appN evN (by rw [evN]; exact hown) hgrow hlies, hT.belN hB hgrow, by rw [evN]; exact hbO.appN hgrow hlies⟩ (fun W h => ⟨h.1.blk.cell' (by rfl), h.1.blk.cell' (by rfl)⟩) ?_
                clear hK K hT hB hU hown hgrow hlies hltN hbO hbN
                rintro W ⟨hT, hB, hbO⟩ hU
                refine AnyS.branch (rs := [15]) (by kernel_rfl) (by simp) (AllS.cons rfl (fun K hK => ?_) AllS.nil)
                · skip
                  refine step_append_lies _ rfl (.tmp 51) (.tmp 53) 35 rfl w.heap.size 26 j0 (.slice none 0 0) 1 24 Try.underlying35 hj hy0 hy1 hy2 rfl (by decide) vO rO.length rO rfl hT.oO ⟨bO, 0, none⟩ 1 1 [(.slice (some ⟨g6, 0, none⟩) (i64s (otR m k m.l)).length c6)] rfl rfl hbO.news (by simp [Value.oneCell']) (by omega) (by have := hT.rowsO.1; simp [tabN, tabO, maxLen] at this ⊢; omega) (by have := hT.rowsO.1; simp [tabN, tabO] at this; omega) hT.bs _ rfl ?_
                  intro gO capO W1 hown hgrow hlies hltO
                  obtain ⟨vO', evO⟩ : ∃ v, v = Value.slice (some ⟨gO, 0, none⟩) (rO.length + 1) capO := ⟨_, rfl⟩
                  rw [← evO]
                  refine Shut.abs hK (fun W => TabM w.heap.size W w.heap.size vN vO vN' vO' (rN ++ [(.slice (some ⟨g5, 0, none⟩) (i64s (nxR m k m.l)).length c5)]) (rO ++ [(.slice (some ⟨g6, 0, none⟩) (i64s (otR m k m.l)).length c6)]) (tabN m k ++ [i64s (nxR m k m.l)]) (tabO m k ++ [i64s (otR m k m.l)]) (.slice (some ⟨g5, 0, none⟩) (i64s (nxR m k m.l)).length c5) (i64s (nxR m k m.l)) (.slice (some ⟨g6, 0, none⟩) (i64s (otR m k m.l)).length c6) (i64s (otR m k m.l)) ∧ Below w.heap.size w W) ⟨hT.appO evO (by rw [evO]; exact hown) hgrow hlies, hT.belO hB hgrow⟩ (fun W h => ⟨h.1.blk.cell' (by rfl), h.1.blk.cell' (by rfl)⟩) ?_
                  clear hK K hT hB hU hown hgrow hlies hltO hbO
                  rintro W ⟨hT, hB⟩ hU
                  refine AnyS.take (i := 16) rfl (by kernel_rfl) (by kernel_rfl) (by kernel_rfl) (by rfl) (fun _ _ _ h => h) (by rfl) (by intro w; go_simp; with_reducible rfl) hU (fun hU => ?_)
                  try simp only [Act.put, List.setIfInBounds_toArray, List.set_cons_zero, List.set_cons_succ]
                  refine AnyS.take (i := 17) rfl (by kernel_rfl) (by kernel_rfl) (by kernel_rfl) (by rfl) (fun _ _ _ h => h) (by rfl) (by intro w; go_simp; with_reducible rfl) hU (fun hU => ?_)
                  try simp only [Act.put, List.setIfInBounds_toArray, List.set_cons_zero, List.set_cons_succ]
                  refine AnyS.branch (rs := [18]) (by kernel_rfl) (by simp) (AllS.cons rfl (fun K hK => ?_) AllS.nil)
                  have c0 : W.cell? ⟨w.heap.size, 0, none⟩ = some vN := hT.blk.cell' rfl
                  have f0 := hT.blk.free 0
                  subst evN evO
                  go_simp
                  refine hK.out _ _ (.inr ⟨18, by simp, by rfl⟩) (fun hU => ?_)
                  clear hK K c0 f0
                  refine AnyS.take (i := 19) rfl (by kernel_rfl) (by kernel_rfl) (by kernel_rfl) (by rfl) (fun _ _ _ h => h) (by rfl) (by intro w; go_simp; with_reducible rfl) hU (fun hU => ?_)
                  try simp only [Act.put, List.setIfInBounds_toArray, List.set_cons_zero, List.set_cons_succ]
                  refine AnyS.take (i := 20) rfl (by kernel_rfl) (by kernel_rfl) (by kernel_rfl) (by rfl) (fun _ _ _ h => h) (by rfl) (by intro w; go_simp; with_reducible rfl) hU (fun hU => ?_)
                  try simp only [Act.put, List.setIfInBounds_toArray, List.set_cons_zero, List.set_cons_succ]
                  refine AnyS.branch (rs := [21]) (by kernel_rfl) (by simp) (AllS.cons rfl (fun K hK => ?_) AllS.nil)
                  have h1 := hT.blk.setCell 0 (.slice (some ⟨gN, 0, none⟩) (rN.length + 1) capN)
                  have c1 : (W.setCell ⟨w.heap.size, 0, none⟩ (.slice (some ⟨gN, 0, none⟩) (rN.length + 1) capN)).cell? ⟨w.heap.size, 1, none⟩ = some vO := h1.cell' rfl
                  have f1 := h1.free 1
                  go_simp
                  refine hK.out _ _ (.inr ⟨18, by simp, by rfl⟩) (fun hU => ?_)
                  clear hK K c1 f1 hU h1
                  refine AnyS.done (by kernel_rfl) ?_ _
                  have hTE := hT.store.tab
                  rw [← tabN_succ, ← tabO_succ] at hTE
                  have hBE := (hB.setCell (p := ⟨w.heap.size, 0, none⟩) (Nat.le_refl _) (.slice (some ⟨gN, 0, none⟩) (rN.length + 1) capN)).setCell (p := ⟨w.heap.size, 1, none⟩) (Nat.le_refl _) (.slice (some ⟨gO, 0, none⟩) (rO.length + 1) capO)
                  clear hT hB
                  go_wp2
                  go_roundw
                  case rel => exact ⟨k + 1, by omega, by go_num, hBE, hTE⟩
                  case measure => simp [intOf]; omega
    · have hk' : k = m.s := by omega
      subst hk'
      clear hmr
      go_wp2
      go_ret
      exact ⟨_, rfl, hbr, hT⟩
end Go.Proofs.Yteagecoiijhflaa

/- What the laws do with slices of numbers and machines that come in: copies, sizes, comparisons. -/
namespace Go.Proofs.Yteagecoiijhflaa
open Go.RowKit
set_option linter.unusedVariables false
set_option linter.unusedSimpArgs false

/-- 'make([]int64, n)' -/
theorem mkI (n : Nat) (hn : n ≤ 2000000) (u : World) : (Instr.makeSlice 26 (.int .i64 (n : Int)) (.int .i64 (n : Int))).run Try.prog u =
    .ok (.slice (some ⟨u.heap.size, 0, none⟩) n n) (u.alloc (.cells (madeCells #[.int .i64 0] n) 2)) := by
  obtain ⟨i0, hi, hz0, hz1, hz2⟩ := info_parts Try.info2
  have h := run_make (P := Try.prog) u 26 2 i0 (.int .i64 0) Try.underlying26 hi hz0 .i64 .i64 (n : Int) (n : Int) (by omega) (Int.le_refl _) (by rw [hz2]; omega) (by omega)
  simpa [hz1, Value.cells] using h
theorem madeI (n : Nat) : (madeCells #[Value.int .i64 0] n).toList = i64s (List.replicate n 0) := by
  simp only [madeCells, Array.toList_map, Array.toList_range, i64s]
  apply List.ext_getElem?
  intro i
  by_cases hi : i < n <;> simp [hi, Nat.mod_one]

/-- k numbers copied -/
def cpy (xs : List Int) (k : Nat) : List Int := xs.take k ++ List.replicate (xs.length - k) 0
theorem cpy_zero (xs : List Int) : cpy xs 0 = List.replicate xs.length 0 := by simp [cpy]
theorem cpy_all (xs : List Int) : cpy xs xs.length = xs := by simp [cpy]
theorem cpy_length (xs : List Int) (k : Nat) (h : k ≤ xs.length) : (cpy xs k).length = xs.length := by simp [cpy]; omega
theorem cpy_succ (xs : List Int) (k : Nat) (h : k < xs.length) : (i64s (cpy xs k)).set k (.int .i64 (xs[k]?.getD 0)) = i64s (cpy xs (k + 1)) := by
  have e : xs.take (k + 1) = xs.take k ++ [xs[k]] := by rw [List.take_succ_eq_append_getElem h]
  have hl : (xs.take k).length = k := by rw [List.length_take]; omega
  simp only [cpy, i64s, e, List.map_append]
  rw [List.set_append_right _ _ (by rw [List.length_map, hl]; omega), List.append_assoc]
  congr 1
  rw [show k - ((xs.take k).map (Value.int .i64)).length = 0 by rw [List.length_map, hl]; omega, show xs.length - k = (xs.length - (k + 1)) + 1 by omega, List.replicate_succ, List.map_cons, List.set_cons_zero, List.getElem?_eq_getElem h]
  rfl

set_option maxHeartbeats 1000000 in
theorem toInt64S_any (a : Option Addr) (xs : List Int) (c : Nat) (hx : xs.length ≤ 1100000) (w : World) (hI : IntsAt w a xs) :
    Calls Try.prog 18 #[.slice a xs.length c] w fun e w' => ∃ v, e = .returned v ∧ Below w.heap.size w w' ∧ OwnI w' w.heap.size v xs := by
  have HI := Lib.hid hI
  clear hI
  have hmk := mkI xs.length (by omega) w
  have hM0 := (Mm.start w).alloc (madeCells #[.int .i64 0] xs.length) 2
  rw [madeI, ← cpy_zero] at hM0
  go_enter Try.func18, Try.ntmps18
  go_wp2_with fail
  clear hmk
  go_loopw [4] (fun i wr => ∃ k : Nat, k ≤ xs.length ∧ i = .int .i64 k ∧ Mm w.heap.size w wr [(w.heap.size, i64s (cpy xs k), 2)] []) (fun i _ => xs.length - (intOf i).toNat)
  case atStart => exact ⟨0, Nat.zero_le _, rfl, hM0⟩
  case round =>
    clear hM0
    obtain ⟨k, hk, rfl, hM⟩ := hrel
    by_cases hlt : k < xs.length
    · obtain ⟨g, off, rfl, hc⟩ := HI.out k hlt
      rw [← hM.below.cell (p := ⟨g, off + k, none⟩) (World.block_lt_of_cell? w _ hc)] at hc
      have hB := hM.at 0 rfl
      have c1 := hB.cell' (i64s_get (xs := cpy xs k) (i := k) (by rw [cpy_length xs k hk]; exact hlt))
      have f1 := hB.free k
      have i1 : (0 : Int) ≤ (k : Int) := by omega
      have i2 : (k : Int) < (xs.length : Int) := by omega
      have hset := Lib.hid (hM.setCell 0 rfl k (.int .i64 (xs[k]?.getD 0)))
      rw [cpy_succ xs k hlt] at hset
      clear hM hB
      generalize xs[k]?.getD 0 = x at *
      generalize (cpy xs k)[k]?.getD 0 = y at *
      go_wp2_with fail
      go_roundw
      case rel => exact ⟨k + 1, by omega, by go_num, hset.out⟩
      case measure => simp [intOf]; omega
    · have hk' : k = xs.length := by omega
      subst hk'
      rw [cpy_all] at hM
      have hF := Lib.hid (hM.addOwn (List.mem_singleton.2 rfl) xs.length (by simp [i64s]) (by omega))
      clear hM
      go_wp2_with fail
      go_ret
      exact ⟨_, rfl, hF.out.below, by simpa [OwnI, i64s] using hF.out.own _ (List.mem_cons_self ..)⟩

theorem szInt64S_any (a : Option Addr) (n c : Nat) (left : Int) (h0 : 0 ≤ left) (h1 : left ≤ 1048576) (hn : n ≤ 9223372036854775807) (w : World) :
    Calls Try.prog 61 #[.slice a n c, .int .i64 left] w fun e w' => e = .returned (.int .i64 (if left < n then -1 else left - n)) ∧ w = w' := by
  go_enter Try.func61, Try.ntmps61
  have i1 : -9223372036854775808 ≤ left - n := by omega
  have i2 : left - n ≤ 9223372036854775807 := by omega
  by_cases h : left < n
  · have h' : left - (n : Int) < 0 := by omega
    go_wp2
    go_ret
    exact ⟨ret_int (by simp [h]), rfl⟩
  · have h' : ¬ left - (n : Int) < 0 := by omega
    go_wp2
    go_ret
    exact ⟨ret_int (by first | rfl | rw [if_neg (by omega)]), rfl⟩

end Go.Proofs.Yteagecoiijhflaa
