import Derived.Test.YthgkkaifdlkciaaYTile03
import Derived.Test.YthgkkaifdlkciaaYTile04
import Derived.Test.YthgkkaifdlkciaaYTile01
import Derived.Test.YthgkkaifdlkciaaYTile02
import Derived.StillTailTactics
/- A machine as a table. -/
namespace Go.Proofs.Ythgkkaifdlkciaa
open Go.RowKit
set_option linter.unusedVariables false
set_option linter.unusedSimpArgs false

theorem Try.info2 : (Try.prog.info? 2).map (fun i => (i.zero, i.size, i.bytes)) = some (some (.int .i64 0), 1, 8) := by kernel_rfl
theorem Try.info31 : (Try.prog.info? 31).map (fun i => (i.zero, i.size, i.bytes)) = some (some (.slice none 0 0), 1, 24) := by kernel_rfl

def nxR (m : Mch) (q k : Nat) : List Int := (List.range k).map fun x => (m.nn q x : Int)
def otR (m : Mch) (q k : Nat) : List Int := (List.range k).map fun x => (m.on q x : Int)
theorem nxR_succ (m : Mch) (q k : Nat) : i64s (nxR m q (k + 1)) = i64s (nxR m q k) ++ [.int .i64 (m.nn q k : Int)] := by simp [nxR, i64s, List.range_succ]
theorem otR_succ (m : Mch) (q k : Nat) : i64s (otR m q (k + 1)) = i64s (otR m q k) ++ [.int .i64 (m.on q k : Int)] := by simp [otR, i64s, List.range_succ]
def tabN (m : Mch) (k : Nat) : List (List Value) := (List.range k).map fun q => i64s (nxR m q m.l)
def tabO (m : Mch) (k : Nat) : List (List Value) := (List.range k).map fun q => i64s (otR m q m.l)
theorem tabN_succ (m : Mch) (k : Nat) : tabN m (k + 1) = tabN m k ++ [i64s (nxR m k m.l)] := by simp [tabN, List.range_succ]
theorem tabO_succ (m : Mch) (k : Nat) : tabO m (k + 1) = tabO m k ++ [i64s (otR m k m.l)] := by simp [tabO, List.range_succ]

/-- one element in a block of its own -/
theorem one_news (w : World) (v : Value) (E : TypeId) : ∀ j u, [v][j]? = some u → (w.alloc (.cells #[v] E)).cell? ((⟨w.heap.size, 0, none⟩ : Addr).add j) = some u := by
  intro j u hj
  match j, hj with
  | 0, hj => simp at hj; subst hj; simp [Addr.add]

/-- two rows apart: behind an append to the one -/
def ApartV (v u : Value) : Prop := v.ownBlock = none ∨ v.ownBlock ≠ u.ownBlock
theorem ApartV.symm' {v u : Value} (h : ApartV v u) : ApartV u v := by
  rcases h with h | h
  · by_cases e : u.ownBlock = none
    · exact .inl e
    · exact .inr (by rw [h]; exact e)
  · exact .inr (Ne.symm h)
theorem own_apart {W w1 : World} {B C E F n k g : Nat} {v u : Value} {xs ys : List Value} (h5 : W.ownsRow B E 1 v n xs) (h6 : W.ownsRow C F 1 u k ys) (hne : ApartV v u)
    (hg : W.grownBy w1 v.ownBlock) {H : Nat} (hH : W.heap.size = H) (hl : v.ownBlock = some g ∨ g = H) (n' cap : Nat) : w1.ownsRow C F 1 u k ys ∧ ApartV (.slice (some ⟨g, 0, none⟩) n' cap) u := by
  refine ⟨h6.kept hg hne.symm', .inr ?_⟩
  intro e
  simp only [Value.ownBlock] at e
  rcases hl with hl | hl
  · rcases hne with e' | e'
    · rw [e'] at hl; cases hl
    · rw [hl] at e'; exact e' e
  · have := (h6.lt g e.symm).2; omega

set_option maxRecDepth 100000 in
set_option maxHeartbeats 4000000 in
theorem table_any (b o : Nat) (m : Mch) (hwf : m.Wf) (hok : m.Ok) (w : World) (hm : MAt w b o m) :
    Calls Try.prog 58 #[.pointer (some ⟨b, o, none⟩)] w (fun e w' => ∃ T, e = .returned (.pointer (some ⟨T, 0, none⟩)) ∧ Below w.heap.size w w' ∧ Tab w.heap.size w' T (tabN m m.s) (tabO m m.s)) := by
  obtain ⟨i0, hi, hz0, hz1, hz2⟩ := info_parts Try.info2
  obtain ⟨j0, hj, hy0, hy1, hy2⟩ := info_parts Try.info31
  have hs16 := hok.s_le
  have hl3 := hok.l_le
  have hl2 := hok.l_ge
  have hcs : w.cell? ⟨b, o + 1, none⟩ = some (.int .i64 (m.s : Int)) := by rw [← hok.S_eq]; exact hm.s
  have hbw : b < w.heap.size := World.block_lt_of_cell? w ⟨b, o, none⟩ hm.l
  go_enter Try.func58, Try.ntmps58
  go_wp2
  go_loopw [14] (fun i wr => ∃ k : Nat, k ≤ m.s ∧ i = .int .i64 k ∧ Below w.heap.size w wr ∧ Tab w.heap.size wr w.heap.size (tabN m k) (tabO m k)) (fun i _ => m.s - (intOf i).toNat)
  case atStart => exact ⟨0, Nat.zero_le _, rfl, boxedBelow _ _ _, Tab.start (Blk.new _ _ _) (by simp)⟩
  case round =>
    obtain ⟨k, hk, rfl, hbr, hT⟩ := hrel
    obtain ⟨wo, rfl⟩ : ∃ wo : World, wo = wr := ⟨_, rfl⟩
    have hmr := hm.below hbr hbw
    by_cases hlt : k < m.s
    · have hcl : wo.cell? ⟨b, o, none⟩ = some (.int .i64 (m.l : Int)) := by rw [← hok.L_eq]; exact hmr.l
      go_wp2
      go_loopw [5, 6, 21] (fun v5 v6 i wi => ∃ x : Nat, x ≤ m.l ∧ i = .int .i64 x ∧ wi.ownsRow wo.heap.size 2 1 v5 x (i64s (nxR m k x)) ∧ wi.ownsRow wo.heap.size 2 1 v6 x (i64s (otR m k x)) ∧
        ApartV v5 v6 ∧ Below wo.heap.size wo wi) (fun _ _ i _ => m.l - (intOf i).toNat)
      case atStart => exact ⟨0, Nat.zero_le _, rfl, World.ownsRow_nil _ _ _ _, World.ownsRow_nil _ _ _ _, .inl rfl, Below.refl _ _⟩
      case round =>
        obtain ⟨x, hx, rfl, h5, h6, hne, hbi⟩ := hrel
        by_cases hxlt : x < m.l
        · have hmi := hmr.keep hbi hwf
          have EO := Lib.hid (hok.o_eq hwf hlt hxlt)
          have EN := Lib.hid (hok.n_eq hwf hlt hxlt)
          have NS := Lib.hid (nxR_succ m k x)
          have OS := Lib.hid (otR_succ m k x)
          go_wp2_with fail
          refine (next_any b o m hwf _ _ (by omega) (by omega) _ hmi).mono ?_
          rintro e w' ⟨rfl, rfl⟩
          rw [Int.toNat_natCast, Int.toNat_natCast, EN.out]
          go_wp2_with (at_builtin; refine wpList_append_lies _ rfl (.tmp 24) (.tmp 29) 31 rfl wo.heap.size 2 i0 (.int .i64 0) 1 8 Try.underlying31 hi hz0 hz1 hz2 rfl (by decide) _ _ _ rfl (h5.alloc _) ⟨_, 0, none⟩ 1 1 [.int .i64 (m.nn k x : Int)] rfl rfl (one_news _ _ _) (by simp [Value.oneCell']) (by omega) ?c3 ?c4 ?c5 _ rfl ?_)
          case c3 => simp [maxLen]; omega
          case c4 => omega
          case c5 => have := hbi.size; simp; omega
          intro g cap w1 hown hgrow hlies hlt1
          obtain ⟨hb1, hsz1, -⟩ := grown_below hbi h5 (Nat.le_refl _) hbi.size hgrow
          obtain ⟨h6', hne'⟩ := own_apart (h5.alloc _) (h6.alloc _) hne hgrow (by simp) hlies (x + 1) cap
          have hm1 := hmr.keep hb1 hwf
          rw [← NS.out] at hown
          clear h5 h6 hne hgrow hlies hlt1 hbi NS EN hmi
          go_wp2_with fail
          refine (out_any b o m hwf _ _ (by omega) (by omega) _ hm1).mono ?_
          rintro e w' ⟨rfl, rfl⟩
          rw [Int.toNat_natCast, Int.toNat_natCast, EO.out]
          go_wp2_with (at_builtin; refine wpList_append_lies _ rfl (.tmp 31) (.tmp 36) 31 rfl wo.heap.size 2 i0 (.int .i64 0) 1 8 Try.underlying31 hi hz0 hz1 hz2 rfl (by decide) _ _ _ rfl (h6'.alloc _) ⟨_, 0, none⟩ 1 1 [.int .i64 (m.on k x : Int)] rfl rfl (one_news _ _ _) (by simp [Value.oneCell']) (by omega) ?c3 ?c4 ?c5 _ rfl ?_)
          case c3 => simp [maxLen]; omega
          case c4 => omega
          case c5 => have := hb1.size; simp; omega
          intro g2 cap2 w2 hown2 hgrow2 hlies2 hlt2
          obtain ⟨hb2, hsz2, -⟩ := grown_below hb1 h6' (Nat.le_refl _) hb1.size hgrow2
          obtain ⟨h5', hne2⟩ := own_apart (h6'.alloc _) (hown.alloc _) hne'.symm' hgrow2 (by simp) hlies2 (x + 1) cap2
          rw [← OS.out] at hown2
          clear h6' hne' hgrow2 hlies2 hlt2 hb1 OS EO hm1 hown
          go_wp2
          go_roundw
          case rel => exact ⟨x + 1, by omega, by go_num, h5', hown2, hne2.symm', hb2⟩
          case measure => simp [intOf]; omega
        · have hx' : x = m.l := by omega
          subst hx'
          have r5 := RowV.of_own (xs := i64s (nxR m k m.l)) (by simpa [i64s, nxR] using h5) (by simp [i64s, nxR]; omega)
          have r6 := RowV.of_own (xs := i64s (otR m k m.l)) (by simpa [i64s, otR] using h6) (by simp [i64s, otR]; omega)
          obtain ⟨vN, vO, rN, rO, hTM⟩ := hT.more hbi r5 r6
          obtain ⟨g5, c5, e5, -⟩ := r5.cell
          obtain ⟨g6, c6, e6, -⟩ := r6.cell
          subst e5 e6
          have hb2 := hbr.trans (hbi.mono hbr.size)
          clear h5 h6 hne hbi r5 r6 hT hmr hcl
          go_wp2
          have hTd := hTM.drew
          refine region_S (fun w' => w'.cell? ⟨w.heap.size, 0, none⟩ = some vN ∧ w'.cell? ⟨w.heap.size, 1, none⟩ = some vO) [18, 21] 22 rfl (by kernel_rfl) ⟨hTd.blk.cell' (by rfl), hTd.blk.cell' (by rfl)⟩ (fun hU => ?_)
          refine AnyS.take (i := 0) rfl (by kernel_rfl) (by kernel_rfl) (by kernel_rfl) (by rfl) (fun _ _ _ h => h) (by rfl) (by intro w; go_simp; with_reducible rfl) hU (fun hU => ?_)
          try simp only [Act.put, List.setIfInBounds_toArray, List.set_cons_zero, List.set_cons_succ]
          refine AnyS.take (i := 1) rfl (by kernel_rfl) (by kernel_rfl) (by kernel_rfl) (by rfl) (fun _ _ _ h => h) (by rfl) (by intro w; go_simp; with_reducible rfl) hU (fun hU => ?_)
          try simp only [Act.put, List.setIfInBounds_toArray, List.set_cons_zero, List.set_cons_succ]
          refine AnyS.take (i := 2) rfl (by kernel_rfl) (by kernel_rfl) (by kernel_rfl) (by rfl) (fun _ _ _ h => h) (by rfl) (by intro w; go_simp; with_reducible rfl) hU (fun hU => ?_)
          try simp only [Act.put, List.setIfInBounds_toArray, List.set_cons_zero, List.set_cons_succ]
          refine AnyS.take (i := 3) rfl (by kernel_rfl) (by kernel_rfl) (by kernel_rfl) (by rfl) (fun _ _ _ h => h) (by rfl) (by intro w; go_simp; with_reducible rfl) hU (fun hU => ?_)
          try simp only [Act.put, List.setIfInBounds_toArray, List.set_cons_zero, List.set_cons_succ]
          refine AnyS.take (i := 4) rfl (by kernel_rfl) (by kernel_rfl) (by kernel_rfl) (by rfl) (fun _ _ _ h => h) (by rfl) (by intro w; go_simp; with_reducible rfl) hU (fun hU => ?_)
          try simp only [Act.put, List.setIfInBounds_toArray, List.set_cons_zero, List.set_cons_succ]
          refine AnyS.takeS (i := 5) rfl (by kernel_rfl) (by kernel_rfl) (by kernel_rfl) (by rfl) (by kernel_rfl) (by kernel_rfl) (fun _ _ _ h => h) (by rfl) (by intro w hSw; obtain ⟨hc0, hc1⟩ := hSw; go_simp; with_reducible rfl) hU (fun hU => ?_)
          try simp only [Act.put, List.setIfInBounds_toArray, List.set_cons_zero, List.set_cons_succ]
          refine AnyS.take (i := 6) rfl (by kernel_rfl) (by kernel_rfl) (by kernel_rfl) (by rfl) (fun _ _ _ h => h) (by rfl) (by intro w; go_simp; with_reducible rfl) hU (fun hU => ?_)
          try simp only [Act.put, List.setIfInBounds_toArray, List.set_cons_zero, List.set_cons_succ]
          refine AnyS.take (i := 9) rfl (by kernel_rfl) (by kernel_rfl) (by kernel_rfl) (by rfl) (fun _ _ _ h => h) (by rfl) (by intro w; go_simp; with_reducible rfl) hU (fun hU => ?_)
          try simp only [Act.put, List.setIfInBounds_toArray, List.set_cons_zero, List.set_cons_succ]
          refine AnyS.take (i := 10) rfl (by kernel_rfl) (by kernel_rfl) (by kernel_rfl) (by rfl) (fun _ _ _ h => h) (by rfl) (by intro w; go_simp; with_reducible rfl) hU (fun hU => ?_)
          try simp only [Act.put, List.setIfInBounds_toArray, List.set_cons_zero, List.set_cons_succ]
          refine AnyS.take (i := 11) rfl (by kernel_rfl) (by kernel_rfl) (by kernel_rfl) (by rfl) (fun _ _ _ h => h) (by rfl) (by intro w; go_simp; with_reducible rfl) hU (fun hU => ?_)
          try simp only [Act.put, List.setIfInBounds_toArray, List.set_cons_zero, List.set_cons_succ]
          refine AnyS.takeS (i := 12) rfl (by kernel_rfl) (by kernel_rfl) (by kernel_rfl) (by rfl) (by kernel_rfl) (by kernel_rfl) (fun _ _ _ h => h) (by rfl) (by intro w hSw; obtain ⟨hc0, hc1⟩ := hSw; go_simp; with_reducible rfl) hU (fun hU => ?_)
          try simp only [Act.put, List.setIfInBounds_toArray, List.set_cons_zero, List.set_cons_succ]
          refine AnyS.take (i := 13) rfl (by kernel_rfl) (by kernel_rfl) (by kernel_rfl) (by rfl) (fun _ _ _ h => h) (by rfl) (by intro w; go_simp; with_reducible rfl) hU (fun hU => ?_)
          try simp only [Act.put, List.setIfInBounds_toArray, List.set_cons_zero, List.set_cons_succ]
          obtain ⟨W, eW⟩ : ∃ W : World, W = wr.drew := ⟨_, rfl⟩
          rw [← eW] at hU hTd ⊢
          have hT := hTd
          have hB : Below w.heap.size w W := by rw [eW]; exact hb2.drew
          clear hTd hTM hb2 eW
          refine AnyS.branch (rs := [7, 14]) (by kernel_rfl) (by simp) (AllS.cons rfl (fun K hK => ?_) (AllS.cons rfl (fun K hK => ?_) AllS.nil))
          · skip
            go_simp
            obtain ⟨bN, ebN⟩ : ∃ t, t = W.heap.size := ⟨_, rfl⟩
            rw [← ebN]
            refine Shut.abs hK (fun W => TabM w.heap.size W w.heap.size vN vO vN vO rN rO (tabN m k) (tabO m k) (.slice (some ⟨g5, 0, none⟩) (i64s (nxR m k m.l)).length c5) (i64s (nxR m k m.l)) (.slice (some ⟨g6, 0, none⟩) (i64s (otR m k m.l)).length c6) (i64s (otR m k m.l)) ∧ Below w.heap.size w W ∧ TmpB W bN (.slice (some ⟨g5, 0, none⟩) (i64s (nxR m k m.l)).length c5) vN vO) ⟨hT.alloc _, hB.alloc hT.bs _, by rw [ebN]; exact hT.tmp _⟩ (fun W h => ⟨h.1.blk.cell' (by rfl), h.1.blk.cell' (by rfl)⟩) ?_
            clear hK K hT hB hU ebN 
            rintro W ⟨hT, hB, hbN⟩ hU
            refine AnyS.branch (rs := [8, 14]) (by kernel_rfl) (by simp) (AllS.cons rfl (fun K hK => ?_) (AllS.cons rfl (fun K hK => ?_) AllS.nil))
            · skip
              refine step_append_lies _ rfl (.tmp 44) (.tmp 46) 40 rfl w.heap.size 31 j0 (.slice none 0 0) 1 24 Try.underlying40 hj hy0 hy1 hy2 rfl (by decide) vN rN.length rN rfl hT.oN ⟨bN, 0, none⟩ 1 1 [(.slice (some ⟨g5, 0, none⟩) (i64s (nxR m k m.l)).length c5)] rfl rfl hbN.news (by simp [Value.oneCell']) (by omega) (by have := hT.rowsN.1; simp [tabN, tabO, maxLen] at this ⊢; omega) (by have := hT.rowsN.1; simp [tabN, tabO] at this; omega) hT.bs _ rfl ?_
              intro gN capN W1 hown hgrow hlies hltN
              obtain ⟨vN', evN⟩ : ∃ v, v = Value.slice (some ⟨gN, 0, none⟩) (rN.length + 1) capN := ⟨_, rfl⟩
              rw [← evN]
              refine Shut.abs hK (fun W => TabM w.heap.size W w.heap.size vN vO vN' vO (rN ++ [(.slice (some ⟨g5, 0, none⟩) (i64s (nxR m k m.l)).length c5)]) rO (tabN m k ++ [i64s (nxR m k m.l)]) (tabO m k) (.slice (some ⟨g5, 0, none⟩) (i64s (nxR m k m.l)).length c5) (i64s (nxR m k m.l)) (.slice (some ⟨g6, 0, none⟩) (i64s (otR m k m.l)).length c6) (i64s (otR m k m.l)) ∧ Below w.heap.size w W) ⟨hT.appN evN (by rw [evN]; exact hown) hgrow hlies, hT.belN hB hgrow⟩ (fun W h => ⟨h.1.blk.cell' (by rfl), h.1.blk.cell' (by rfl)⟩) ?_
              clear hK K hT hB hU hown hgrow hlies hltN hbN
              rintro W ⟨hT, hB⟩ hU
              refine AnyS.branch (rs := [14]) (by kernel_rfl) (by simp) (AllS.cons rfl (fun K hK => ?_) AllS.nil)
              · skip
                go_simp
                obtain ⟨bO, ebO⟩ : ∃ t, t = W.heap.size := ⟨_, rfl⟩
                rw [← ebO]
                refine Shut.abs hK (fun W => TabM w.heap.size W w.heap.size vN vO vN' vO (rN ++ [(.slice (some ⟨g5, 0, none⟩) (i64s (nxR m k m.l)).length c5)]) rO (tabN m k ++ [i64s (nxR m k m.l)]) (tabO m k) (.slice (some ⟨g5, 0, none⟩) (i64s (nxR m k m.l)).length c5) (i64s (nxR m k m.l)) (.slice (some ⟨g6, 0, none⟩) (i64s (otR m k m.l)).length c6) (i64s (otR m k m.l)) ∧ Below w.heap.size w W ∧ TmpB W bO (.slice (some ⟨g6, 0, none⟩) (i64s (otR m k m.l)).length c6) vN' vO) ⟨hT.alloc _, hB.alloc hT.bs _, by rw [ebO]; exact hT.tmp _⟩ (fun W h => ⟨h.1.blk.cell' (by rfl), h.1.blk.cell' (by rfl)⟩) ?_
                clear hK K hT hB hU ebO 
                rintro W ⟨hT, hB, hbO⟩ hU
                refine AnyS.branch (rs := [15]) (by kernel_rfl) (by simp) (AllS.cons rfl (fun K hK => ?_) AllS.nil)
                · skip
                  refine step_append_lies _ rfl (.tmp 51) (.tmp 53) 40 rfl w.heap.size 31 j0 (.slice none 0 0) 1 24 Try.underlying40 hj hy0 hy1 hy2 rfl (by decide) vO rO.length rO rfl hT.oO ⟨bO, 0, none⟩ 1 1 [(.slice (some ⟨g6, 0, none⟩) (i64s (otR m k m.l)).length c6)] rfl rfl hbO.news (by simp [Value.oneCell']) (by omega) (by have := hT.rowsO.1; simp [tabN, tabO, maxLen] at this ⊢; omega) (by have := hT.rowsO.1; simp [tabN, tabO] at this; omega) hT.bs _ rfl ?_
                  intro gO capO W1 hown hgrow hlies hltO
                  obtain ⟨vO', evO⟩ : ∃ v, v = Value.slice (some ⟨gO, 0, none⟩) (rO.length + 1) capO := ⟨_, rfl⟩
                  rw [← evO]
                  refine Shut.abs hK (fun W => TabM w.heap.size W w.heap.size vN vO vN' vO' (rN ++ [(.slice (some ⟨g5, 0, none⟩) (i64s (nxR m k m.l)).length c5)]) (rO ++ [(.slice (some ⟨g6, 0, none⟩) (i64s (otR m k m.l)).length c6)]) (tabN m k ++ [i64s (nxR m k m.l)]) (tabO m k ++ [i64s (otR m k m.l)]) (.slice (some ⟨g5, 0, none⟩) (i64s (nxR m k m.l)).length c5) (i64s (nxR m k m.l)) (.slice (some ⟨g6, 0, none⟩) (i64s (otR m k m.l)).length c6) (i64s (otR m k m.l)) ∧ Below w.heap.size w W) ⟨hT.appO evO (by rw [evO]; exact hown) hgrow hlies, hT.belO hB hgrow⟩ (fun W h => ⟨h.1.blk.cell' (by rfl), h.1.blk.cell' (by rfl)⟩) ?_
                  clear hK K hT hB hU hown hgrow hlies hltO hbO
                  rintro W ⟨hT, hB⟩ hU
                  refine AnyS.take (i := 16) rfl (by kernel_rfl) (by kernel_rfl) (by kernel_rfl) (by rfl) (fun _ _ _ h => h) (by rfl) (by intro w; go_simp; with_reducible rfl) hU (fun hU => ?_)
                  try simp only [Act.put, List.setIfInBounds_toArray, List.set_cons_zero, List.set_cons_succ]
                  refine AnyS.take (i := 17) rfl (by kernel_rfl) (by kernel_rfl) (by kernel_rfl) (by rfl) (fun _ _ _ h => h) (by rfl) (by intro w; go_simp; with_reducible rfl) hU (fun hU => ?_)
                  try simp only [Act.put, List.setIfInBounds_toArray, List.set_cons_zero, List.set_cons_succ]
                  refine AnyS.branch (rs := [18]) (by kernel_rfl) (by simp) (AllS.cons rfl (fun K hK => ?_) AllS.nil)
                  have c0 : W.cell? ⟨w.heap.size, 0, none⟩ = some vN := hT.blk.cell' rfl
                  have f0 := hT.blk.free 0
                  subst evN evO
                  go_simp
                  refine hK.out _ _ (.inr ⟨18, by simp, by rfl⟩) (fun hU => ?_)
                  clear hK K c0 f0
                  refine AnyS.take (i := 19) rfl (by kernel_rfl) (by kernel_rfl) (by kernel_rfl) (by rfl) (fun _ _ _ h => h) (by rfl) (by intro w; go_simp; with_reducible rfl) hU (fun hU => ?_)
                  try simp only [Act.put, List.setIfInBounds_toArray, List.set_cons_zero, List.set_cons_succ]
                  refine AnyS.take (i := 20) rfl (by kernel_rfl) (by kernel_rfl) (by kernel_rfl) (by rfl) (fun _ _ _ h => h) (by rfl) (by intro w; go_simp; with_reducible rfl) hU (fun hU => ?_)
                  try simp only [Act.put, List.setIfInBounds_toArray, List.set_cons_zero, List.set_cons_succ]
                  refine AnyS.branch (rs := [21]) (by kernel_rfl) (by simp) (AllS.cons rfl (fun K hK => ?_) AllS.nil)
                  have h1 := hT.blk.setCell 0 (.slice (some ⟨gN, 0, none⟩) (rN.length + 1) capN)
                  have c1 : (W.setCell ⟨w.heap.size, 0, none⟩ (.slice (some ⟨gN, 0, none⟩) (rN.length + 1) capN)).cell? ⟨w.heap.size, 1, none⟩ = some vO := h1.cell' rfl
                  have f1 := h1.free 1
                  go_simp
                  refine hK.out _ _ (.inr ⟨18, by simp, by rfl⟩) (fun hU => ?_)
                  clear hK K c1 f1 hU h1
                  refine AnyS.done (by kernel_rfl) ?_ _
                  have hTE := hT.store.tab
                  rw [← tabN_succ, ← tabO_succ] at hTE
                  have hBE := (hB.setCell (p := ⟨w.heap.size, 0, none⟩) (Nat.le_refl _) (.slice (some ⟨gN, 0, none⟩) (rN.length + 1) capN)).setCell (p := ⟨w.heap.size, 1, none⟩) (Nat.le_refl _) (.slice (some ⟨gO, 0, none⟩) (rO.length + 1) capO)
                  clear hT hB
                  go_wp2
                  go_roundw
                  case rel => exact ⟨k + 1, by omega, by go_num, hBE, hTE⟩
                  case measure => simp [intOf]; omega
            · skip
              go_simp
              obtain ⟨bO, ebO⟩ : ∃ t, t = W.heap.size := ⟨_, rfl⟩
              rw [← ebO]
              refine Shut.abs hK (fun W => TabM w.heap.size W w.heap.size vN vO vN vO rN rO (tabN m k) (tabO m k) (.slice (some ⟨g5, 0, none⟩) (i64s (nxR m k m.l)).length c5) (i64s (nxR m k m.l)) (.slice (some ⟨g6, 0, none⟩) (i64s (otR m k m.l)).length c6) (i64s (otR m k m.l)) ∧ Below w.heap.size w W ∧ TmpB W bN (.slice (some ⟨g5, 0, none⟩) (i64s (nxR m k m.l)).length c5) vN vO ∧ TmpB W bO (.slice (some ⟨g6, 0, none⟩) (i64s (otR m k m.l)).length c6) vN vO) ⟨hT.alloc _, hB.alloc hT.bs _, hbN.alloc _, by rw [ebO]; exact hT.tmp _⟩ (fun W h => ⟨h.1.blk.cell' (by rfl), h.1.blk.cell' (by rfl)⟩) ?_
              clear hK K hT hB hU ebO hbN
              rintro W ⟨hT, hB, hbN, hbO⟩ hU
              refine AnyS.branch (rs := [8]) (by kernel_rfl) (by simp) (AllS.cons rfl (fun K hK => ?_) AllS.nil)
              · skip
                refine step_append_lies _ rfl (.tmp 44) (.tmp 46) 40 rfl w.heap.size 31 j0 (.slice none 0 0) 1 24 Try.underlying40 hj hy0 hy1 hy2 rfl (by decide) vN rN.length rN rfl hT.oN ⟨bN, 0, none⟩ 1 1 [(.slice (some ⟨g5, 0, none⟩) (i64s (nxR m k m.l)).length c5)] rfl rfl hbN.news (by simp [Value.oneCell']) (by omega) (by have := hT.rowsN.1; simp [tabN, tabO, maxLen] at this ⊢; omega) (by have := hT.rowsN.1; simp [tabN, tabO] at this; omega) hT.bs _ rfl ?_
                intro gN capN W1 hown hgrow hlies hltN
                obtain ⟨vN', evN⟩ : ∃ v, v = Value.slice (some ⟨gN, 0, none⟩) (rN.length + 1) capN := ⟨_, rfl⟩
                rw [← evN]
                refine Shut.abs hK (fun W => TabM w.heap.size W w.heap.size vN vO vN' vO (rN ++ [(.slice (some ⟨g5, 0, none⟩) (i64s (nxR m k m.l)).length c5)]) rO (tabN m k ++ [i64s (nxR m k m.l)]) (tabO m k) (.slice (some ⟨g5, 0, none⟩) (i64s (nxR m k m.l)).length c5) (i64s (nxR m k m.l)) (.slice (some ⟨g6, 0, none⟩) (i64s (otR m k m.l)).length c6) (i64s (otR m k m.l)) ∧ Below w.heap.size w W ∧ TmpB W bO (.slice (some ⟨g6, 0, none⟩) (i64s (otR m k m.l)).length c6) vN' vO) ⟨hT.appN evN (by rw [evN]; exact hown) hgrow hlies, hT.belN hB hgrow, by rw [evN]; exact hbO.appN hgrow hlies⟩ (fun W h => ⟨h.1.blk.cell' (by rfl), h.1.blk.cell' (by rfl)⟩) ?_
                clear hK K hT hB hU hown hgrow hlies hltN hbN hbO
                rintro W ⟨hT, hB, hbO⟩ hU
                refine AnyS.branch (rs := [15]) (by kernel_rfl) (by simp) (AllS.cons rfl (fun K hK => ?_) AllS.nil)
                · skip
                  refine step_append_lies _ rfl (.tmp 51) (.tmp 53) 40 rfl w.heap.size 31 j0 (.slice none 0 0) 1 24 Try.underlying40 hj hy0 hy1 hy2 rfl (by decide) vO rO.length rO rfl hT.oO ⟨bO, 0, none⟩ 1 1 [(.slice (some ⟨g6, 0, none⟩) (i64s (otR m k m.l)).length c6)] rfl rfl hbO.news (by simp [Value.oneCell']) (by omega) (by have := hT.rowsO.1; simp [tabN, tabO, maxLen] at this ⊢; omega) (by have := hT.rowsO.1; simp [tabN, tabO] at this; omega) hT.bs _ rfl ?_
                  intro gO capO W1 hown hgrow hlies hltO
                  obtain ⟨vO', evO⟩ : ∃ v, v = Value.slice (some ⟨gO, 0, none⟩) (rO.length + 1) capO := ⟨_, rfl⟩
                  rw [← evO]
                  refine Shut.abs hK (fun W => TabM w.heap.size W w.heap.size vN vO vN' vO' (rN ++ [(.slice (some ⟨g5, 0, none⟩) (i64s (nxR m k m.l)).length c5)]) (rO ++ [(.slice (some ⟨g6, 0, none⟩) (i64s (otR m k m.l)).length c6)]) (tabN m k ++ [i64s (nxR m k m.l)]) (tabO m k ++ [i64s (otR m k m.l)]) (.slice (some ⟨g5, 0, none⟩) (i64s (nxR m k m.l)).length c5) (i64s (nxR m k m.l)) (.slice (some ⟨g6, 0, none⟩) (i64s (otR m k m.l)).length c6) (i64s (otR m k m.l)) ∧ Below w.heap.size w W) ⟨hT.appO evO (by rw [evO]; exact hown) hgrow hlies, hT.belO hB hgrow⟩ (fun W h => ⟨h.1.blk.cell' (by rfl), h.1.blk.cell' (by rfl)⟩) ?_
                  clear hK K hT hB hU hown hgrow hlies hltO hbO
                  rintro W ⟨hT, hB⟩ hU
                  refine AnyS.take (i := 16) rfl (by kernel_rfl) (by kernel_rfl) (by kernel_rfl) (by rfl) (fun _ _ _ h => h) (by rfl) (by intro w; go_simp; with_reducible rfl) hU (fun hU => ?_)
                  try simp only [Act.put, List.setIfInBounds_toArray, List.set_cons_zero, List.set_cons_succ]
                  refine AnyS.take (i := 17) rfl (by kernel_rfl) (by kernel_rfl) (by kernel_rfl) (by rfl) (fun _ _ _ h => h) (by rfl) (by intro w; go_simp; with_reducible rfl) hU (fun hU => ?_)
                  try simp only [Act.put, List.setIfInBounds_toArray, List.set_cons_zero, List.set_cons_succ]
                  refine AnyS.branch (rs := [18]) (by kernel_rfl) (by simp) (AllS.cons rfl (fun K hK => ?_) AllS.nil)
                  have c0 : W.cell? ⟨w.heap.size, 0, none⟩ = some vN := hT.blk.cell' rfl
                  have f0 := hT.blk.free 0
                  subst evN evO
                  go_simp
                  refine hK.out _ _ (.inr ⟨18, by simp, by rfl⟩) (fun hU => ?_)
                  clear hK K c0 f0
                  refine AnyS.take (i := 19) rfl (by kernel_rfl) (by kernel_rfl) (by kernel_rfl) (by rfl) (fun _ _ _ h => h) (by rfl) (by intro w; go_simp; with_reducible rfl) hU (fun hU => ?_)
                  try simp only [Act.put, List.setIfInBounds_toArray, List.set_cons_zero, List.set_cons_succ]
                  refine AnyS.take (i := 20) rfl (by kernel_rfl) (by kernel_rfl) (by kernel_rfl) (by rfl) (fun _ _ _ h => h) (by rfl) (by intro w; go_simp; with_reducible rfl) hU (fun hU => ?_)
                  try simp only [Act.put, List.setIfInBounds_toArray, List.set_cons_zero, List.set_cons_succ]
                  refine AnyS.branch (rs := [21]) (by kernel_rfl) (by simp) (AllS.cons rfl (fun K hK => ?_) AllS.nil)
                  have h1 := hT.blk.setCell 0 (.slice (some ⟨gN, 0, none⟩) (rN.length + 1) capN)
                  have c1 : (W.setCell ⟨w.heap.size, 0, none⟩ (.slice (some ⟨gN, 0, none⟩) (rN.length + 1) capN)).cell? ⟨w.heap.size, 1, none⟩ = some vO := h1.cell' rfl
                  have f1 := h1.free 1
                  go_simp
                  refine hK.out _ _ (.inr ⟨18, by simp, by rfl⟩) (fun hU => ?_)
                  clear hK K c1 f1 hU h1
                  refine AnyS.done (by kernel_rfl) ?_ _
                  have hTE := hT.store.tab
                  rw [← tabN_succ, ← tabO_succ] at hTE
                  have hBE := (hB.setCell (p := ⟨w.heap.size, 0, none⟩) (Nat.le_refl _) (.slice (some ⟨gN, 0, none⟩) (rN.length + 1) capN)).setCell (p := ⟨w.heap.size, 1, none⟩) (Nat.le_refl _) (.slice (some ⟨gO, 0, none⟩) (rO.length + 1) capO)
                  clear hT hB
                  go_wp2
                  go_roundw
                  case rel => exact ⟨k + 1, by omega, by go_num, hBE, hTE⟩
                  case measure => simp [intOf]; omega
          · skip
            go_simp
            obtain ⟨bO, ebO⟩ : ∃ t, t = W.heap.size := ⟨_, rfl⟩
            rw [← ebO]
            refine Shut.abs hK (fun W => TabM w.heap.size W w.heap.size vN vO vN vO rN rO (tabN m k) (tabO m k) (.slice (some ⟨g5, 0, none⟩) (i64s (nxR m k m.l)).length c5) (i64s (nxR m k m.l)) (.slice (some ⟨g6, 0, none⟩) (i64s (otR m k m.l)).length c6) (i64s (otR m k m.l)) ∧ Below w.heap.size w W ∧ TmpB W bO (.slice (some ⟨g6, 0, none⟩) (i64s (otR m k m.l)).length c6) vN vO) ⟨hT.alloc _, hB.alloc hT.bs _, by rw [ebO]; exact hT.tmp _⟩ (fun W h => ⟨h.1.blk.cell' (by rfl), h.1.blk.cell' (by rfl)⟩) ?_
            clear hK K hT hB hU ebO 
            rintro W ⟨hT, hB, hbO⟩ hU
            refine AnyS.branch (rs := [7]) (by kernel_rfl) (by simp) (AllS.cons rfl (fun K hK => ?_) AllS.nil)
            · skip
              go_simp
              obtain ⟨bN, ebN⟩ : ∃ t, t = W.heap.size := ⟨_, rfl⟩
              rw [← ebN]
              refine Shut.abs hK (fun W => TabM w.heap.size W w.heap.size vN vO vN vO rN rO (tabN m k) (tabO m k) (.slice (some ⟨g5, 0, none⟩) (i64s (nxR m k m.l)).length c5) (i64s (nxR m k m.l)) (.slice (some ⟨g6, 0, none⟩) (i64s (otR m k m.l)).length c6) (i64s (otR m k m.l)) ∧ Below w.heap.size w W ∧ TmpB W bO (.slice (some ⟨g6, 0, none⟩) (i64s (otR m k m.l)).length c6) vN vO ∧ TmpB W bN (.slice (some ⟨g5, 0, none⟩) (i64s (nxR m k m.l)).length c5) vN vO) ⟨hT.alloc _, hB.alloc hT.bs _, hbO.alloc _, by rw [ebN]; exact hT.tmp _⟩ (fun W h => ⟨h.1.blk.cell' (by rfl), h.1.blk.cell' (by rfl)⟩) ?_
              clear hK K hT hB hU ebN hbO
              rintro W ⟨hT, hB, hbO, hbN⟩ hU
              refine AnyS.branch (rs := [8]) (by kernel_rfl) (by simp) (AllS.cons rfl (fun K hK => ?_) AllS.nil)
              · skip
                refine step_append_lies _ rfl (.tmp 44) (.tmp 46) 40 rfl w.heap.size 31 j0 (.slice none 0 0) 1 24 Try.underlying40 hj hy0 hy1 hy2 rfl (by decide) vN rN.length rN rfl hT.oN ⟨bN, 0, none⟩ 1 1 [(.slice (some ⟨g5, 0, none⟩) (i64s (nxR m k m.l)).length c5)] rfl rfl hbN.news (by simp [Value.oneCell']) (by omega) (by have := hT.rowsN.1; simp [tabN, tabO, maxLen] at this ⊢; omega) (by have := hT.rowsN.1; simp [tabN, tabO] at this; omega) hT.bs _ rfl ?_
                intro gN capN W1 hown hgrow hlies hltN
                obtain ⟨vN', evN⟩ : ∃ v, v = Value.slice (some ⟨gN, 0, none⟩) (rN.length + 1) capN := ⟨_, rfl⟩
                rw [← evN]
                refine Shut.abs hK (fun W => TabM w.heap.size W w.heap.size vN vO vN' vO (rN ++ [(.slice (some ⟨g5, 0, none⟩) (i64s (nxR m k m.l)).length c5)]) rO (tabN m k ++ [i64s (nxR m k m.l)]) (tabO m k) (.slice (some ⟨g5, 0, none⟩) (i64s (nxR m k m.l)).length c5) (i64s (nxR m k m.l)) (.slice (some ⟨g6, 0, none⟩) (i64s (otR m k m.l)).length c6) (i64s (otR m k m.l)) ∧ Below w.heap.size w W ∧ TmpB W bO (.slice (some ⟨g6, 0, none⟩) (i64s (otR m k m.l)).length c6) vN' vO) ⟨hT.appN evN (by rw [evN]; exact hown) hgrow hlies, hT.belN hB hgrow, by rw [evN]; exact hbO.appN hgrow hlies⟩ (fun W h => ⟨h.1.blk.cell' (by rfl), h.1.blk.cell' (by rfl)⟩) ?_
                clear hK K hT hB hU hown hgrow hlies hltN hbO hbN
                rintro W ⟨hT, hB, hbO⟩ hU
                refine AnyS.branch (rs := [15]) (by kernel_rfl) (by simp) (AllS.cons rfl (fun K hK => ?_) AllS.nil)
                · skip
                  refine step_append_lies _ rfl (.tmp 51) (.tmp 53) 40 rfl w.heap.size 31 j0 (.slice none 0 0) 1 24 Try.underlying40 hj hy0 hy1 hy2 rfl (by decide) vO rO.length rO rfl hT.oO ⟨bO, 0, none⟩ 1 1 [(.slice (some ⟨g6, 0, none⟩) (i64s (otR m k m.l)).length c6)] rfl rfl hbO.news (by simp [Value.oneCell']) (by omega) (by have := hT.rowsO.1; simp [tabN, tabO, maxLen] at this ⊢; omega) (by have := hT.rowsO.1; simp [tabN, tabO] at this; omega) hT.bs _ rfl ?_
                  intro gO capO W1 hown hgrow hlies hltO
                  obtain ⟨vO', evO⟩ : ∃ v, v = Value.slice (some ⟨gO, 0, none⟩) (rO.length + 1) capO := ⟨_, rfl⟩
                  rw [← evO]
                  refine Shut.abs hK (fun W => TabM w.heap.size W w.heap.size vN vO vN' vO' (rN ++ [(.slice (some ⟨g5, 0, none⟩) (i64s (nxR m k m.l)).length c5)]) (rO ++ [(.slice (some ⟨g6, 0, none⟩) (i64s (otR m k m.l)).length c6)]) (tabN m k ++ [i64s (nxR m k m.l)]) (tabO m k ++ [i64s (otR m k m.l)]) (.slice (some ⟨g5, 0, none⟩) (i64s (nxR m k m.l)).length c5) (i64s (nxR m k m.l)) (.slice (some ⟨g6, 0, none⟩) (i64s (otR m k m.l)).length c6) (i64s (otR m k m.l)) ∧ Below w.heap.size w W) ⟨hT.appO evO (by rw [evO]; exact hown) hgrow hlies, hT.belO hB hgrow⟩ (fun W h => ⟨h.1.blk.cell' (by rfl), h.1.blk.cell' (by rfl)⟩) ?_
                  clear hK K hT hB hU hown hgrow hlies hltO hbO
                  rintro W ⟨hT, hB⟩ hU
                  refine AnyS.take (i := 16) rfl (by kernel_rfl) (by kernel_rfl) (by kernel_rfl) (by rfl) (fun _ _ _ h => h) (by rfl) (by intro w; go_simp; with_reducible rfl) hU (fun hU => ?_)
                  try simp only [Act.put, List.setIfInBounds_toArray, List.set_cons_zero, List.set_cons_succ]
                  refine AnyS.take (i := 17) rfl (by kernel_rfl) (by kernel_rfl) (by kernel_rfl) (by rfl) (fun _ _ _ h => h) (by rfl) (by intro w; go_simp; with_reducible rfl) hU (fun hU => ?_)
                  try simp only [Act.put, List.setIfInBounds_toArray, List.set_cons_zero, List.set_cons_succ]
                  refine AnyS.branch (rs := [18]) (by kernel_rfl) (by simp) (AllS.cons rfl (fun K hK => ?_) AllS.nil)
                  have c0 : W.cell? ⟨w.heap.size, 0, none⟩ = some vN := hT.blk.cell' rfl
                  have f0 := hT.blk.free 0
                  subst evN evO
                  go_simp
                  refine hK.out _ _ (.inr ⟨18, by simp, by rfl⟩) (fun hU => ?_)
                  clear hK K c0 f0
                  refine AnyS.take (i := 19) rfl (by kernel_rfl) (by kernel_rfl) (by kernel_rfl) (by rfl) (fun _ _ _ h => h) (by rfl) (by intro w; go_simp; with_reducible rfl) hU (fun hU => ?_)
                  try simp only [Act.put, List.setIfInBounds_toArray, List.set_cons_zero, List.set_cons_succ]
                  refine AnyS.take (i := 20) rfl (by kernel_rfl) (by kernel_rfl) (by kernel_rfl) (by rfl) (fun _ _ _ h => h) (by rfl) (by intro w; go_simp; with_reducible rfl) hU (fun hU => ?_)
                  try simp only [Act.put, List.setIfInBounds_toArray, List.set_cons_zero, List.set_cons_succ]
                  refine AnyS.branch (rs := [21]) (by kernel_rfl) (by simp) (AllS.cons rfl (fun K hK => ?_) AllS.nil)
                  have h1 := hT.blk.setCell 0 (.slice (some ⟨gN, 0, none⟩) (rN.length + 1) capN)
                  have c1 : (W.setCell ⟨w.heap.size, 0, none⟩ (.slice (some ⟨gN, 0, none⟩) (rN.length + 1) capN)).cell? ⟨w.heap.size, 1, none⟩ = some vO := h1.cell' rfl
                  have f1 := h1.free 1
                  go_simp
                  refine hK.out _ _ (.inr ⟨18, by simp, by rfl⟩) (fun hU => ?_)
                  clear hK K c1 f1 hU h1
                  refine AnyS.done (by kernel_rfl) ?_ _
                  have hTE := hT.store.tab
                  rw [← tabN_succ, ← tabO_succ] at hTE
                  have hBE := (hB.setCell (p := ⟨w.heap.size, 0, none⟩) (Nat.le_refl _) (.slice (some ⟨gN, 0, none⟩) (rN.length + 1) capN)).setCell (p := ⟨w.heap.size, 1, none⟩) (Nat.le_refl _) (.slice (some ⟨gO, 0, none⟩) (rO.length + 1) capO)
                  clear hT hB
                  go_wp2
                  go_roundw
                  case rel => exact ⟨k + 1, by omega, by go_num, hBE, hTE⟩
                  case measure => simp [intOf]; omega
    · have hk' : k = m.s := by omega
      subst hk'
      clear hmr
      go_wp2
      go_ret
      exact ⟨_, rfl, hbr, hT⟩
end Go.Proofs.Ythgkkaifdlkciaa

/- The program's rounds for trivial states: no program in sight. -/
namespace Go.Proofs.Ythgkkaifdlkciaa
set_option linter.unusedVariables false
set_option linter.unusedSimpArgs false

/-- the rounds: what is trivial stays; what stays keeps its letters; if nothing has turned in this round so far ('again' is false), what stays among the first j goes on to what stays -/
structure PInv (m : Mch) (tv : Nat → Bool) (again : Bool) (j : Nat) : Prop where
  keep : ∀ q, q < m.s → Triv m q → tv q = true
  outs : ∀ q, q < m.s → tv q = true → ∀ x, x < m.l → m.on q x = x
  none : ∀ q, m.s ≤ q → tv q = false
  still : again = false → ∀ q, q < j → q < m.s → tv q = true → ∀ x, x < m.l → tv (m.nn q x) = true

/-- the first pass: k states done -/
def fstP (m : Mch) (k : Nat) : Nat → Bool := fun q => decide (q < k) && decide (q < m.s) && (List.range m.l).all fun x => m.on q x == x
/-- the first pass: x letters of state k done -/
def fstX (m : Mch) (k x : Nat) : Nat → Bool := upd (fstP m k) k ((List.range x).all fun y => m.on k y == y)
theorem fstX_zero (m : Mch) (k : Nat) : upd (fstP m k) k true = fstX m k 0 := by simp [fstX]
theorem fstX_succ (m : Mch) (k x : Nat) : upd (fstX m k x) k (fstX m k x k && (m.on k x == x)) = fstX m k (x + 1) := by
  funext q
  simp only [fstX, upd, List.range_succ, List.all_append]
  split <;> simp
theorem fstX_fin (m : Mch) {k : Nat} (hk : k < m.s) : fstX m k m.l = fstP m (k + 1) := by
  funext q
  simp only [fstX, upd, fstP]
  by_cases h : q = k
  · subst h; simp [hk]
  · rw [if_neg h]
    congr 2
    simp only [decide_eq_decide]; omega
theorem PInv.start (m : Mch) : PInv m (fstP m m.s) true 0 := by
  refine ⟨fun q hq ht => ?_, fun q hq ht x hx => ?_, fun q hq => ?_, fun h => by cases h⟩
  · simp only [fstP, hq, decide_true, Bool.true_and, List.all_eq_true, List.mem_range, beq_iff_eq]
    exact fun x hx => ht.out hx
  · simp only [fstP, hq, decide_true, Bool.true_and, List.all_eq_true, List.mem_range, beq_iff_eq] at ht
    exact ht x hx
  · simp only [fstP]; simp; omega
theorem PInv.begin {m : Mch} {tv : Nat → Bool} {a : Bool} {j : Nat} (h : PInv m tv a j) : PInv m tv false 0 := ⟨h.keep, h.outs, h.none, fun _ q hq => by omega⟩
/-- a state that goes on to one that is not trivial is taken out -/
theorem PInv.out {m : Mch} (hok : m.Ok) (hwf : m.Wf) {tv : Nat → Bool} {a : Bool} {j : Nat} (h : PInv m tv a j) (hj : j < m.s) {x : Nat} (hx : x < m.l) (hn : tv (m.nn j x) = false) : PInv m (upd tv j false) true (j + 1) := by
  refine ⟨fun q hq ht => ?_, fun q hq ht => ?_, fun q hq => ?_, fun e => by cases e⟩
  · simp only [upd]
    split
    · rename_i e; subst e
      have := h.keep _ (hok.nn_lt hwf hq hx) (ht.next hx)
      rw [hn] at this; cases this
    · exact h.keep q hq ht
  · simp only [upd] at ht
    split at ht
    · cases ht
    · exact h.outs q hq ht
  · simp only [upd]; split; rfl; exact h.none q hq
theorem PInv.pass {m : Mch} {tv : Nat → Bool} {a : Bool} {j : Nat} (h : PInv m tv a j) (hn : tv j = true → ∀ x, x < m.l → tv (m.nn j x) = true) : PInv m tv a (j + 1) :=
  ⟨h.keep, h.outs, h.none, fun e q hq hs ht => by
    by_cases hqj : q = j
    · subst hqj; exact hn ht
    · exact h.still e q (by omega) hs ht⟩
theorem PInv.fin {m : Mch} (hok : m.Ok) (hwf : m.Wf) {tv : Nat → Bool} (h : PInv m tv false m.s) : tv = trivB m := by
  funext q
  by_cases hq : q < m.s
  · rw [Bool.eq_iff_iff, trivB_iff hok hwf hq]
    exact ⟨fun ht => triv_of_closed hok hwf tv (fun q hq hp x hx => ⟨h.outs q hq hp x hx, h.still rfl q hq hq hp x hx⟩) q hq ht, h.keep q hq⟩
  · rw [h.none q (by omega)]
    simp [trivB, hq]
/-- how many stay -/
def cntT (n : Nat) (tv : Nat → Bool) : Nat := ((List.range n).filter tv).length
theorem cntT_upd {n : Nat} {tv : Nat → Bool} {j : Nat} (hj : j < n) (ht : tv j = true) : cntT n (upd tv j false) < cntT n tv :=
  filter_len_lt _ (fun q _ h => by simp only [upd] at h; split at h; cases h; exact h) ⟨j, by simpa using hj, ht, by simp [upd]⟩
end Go.Proofs.Ythgkkaifdlkciaa

/- The program's trivial states. -/
namespace Go.Proofs.Ythgkkaifdlkciaa
open Go.RowKit
set_option linter.unusedVariables false
set_option linter.unusedSimpArgs false

/-- a machine's table, for reading -/
def TabR (w : World) (T : Nat) (m : Mch) : Prop := ∃ gN cN gO cO, w.cell? ⟨T, 0, none⟩ = some (.slice (some ⟨gN, 0, none⟩) m.s cN) ∧ w.cell? ⟨T, 1, none⟩ = some (.slice (some ⟨gO, 0, none⟩) m.s cO) ∧
  (∀ q, q < m.s → ∃ g c, w.cell? ⟨gN, q, none⟩ = some (.slice (some ⟨g, 0, none⟩) m.l c) ∧ ∀ x, x < m.l → w.cell? ⟨g, x, none⟩ = some (.int .i64 (m.nn q x))) ∧
  (∀ q, q < m.s → ∃ g c, w.cell? ⟨gO, q, none⟩ = some (.slice (some ⟨g, 0, none⟩) m.l c) ∧ ∀ x, x < m.l → w.cell? ⟨g, x, none⟩ = some (.int .i64 (m.on q x)))
theorem TabR.keep {w w' : World} {T : Nat} {m : Mch} (h : TabR w T m) (hb : Below w.heap.size w w') : TabR w' T m := by
  have K : ∀ (a : Addr) (v : Value), w.cell? a = some v → w'.cell? a = some v := fun a v h => (hb.cell (World.block_lt_of_cell? w a h)).trans h
  obtain ⟨gN, cN, gO, cO, h1, h2, h3, h4⟩ := h
  refine ⟨gN, cN, gO, cO, K _ _ h1, K _ _ h2, fun q hq => ?_, fun q hq => ?_⟩
  · obtain ⟨g, c, hc, hx⟩ := h3 q hq; exact ⟨g, c, K _ _ hc, fun x h => K _ _ (hx x h)⟩
  · obtain ⟨g, c, hc, hx⟩ := h4 q hq; exact ⟨g, c, K _ _ hc, fun x h => K _ _ (hx x h)⟩
theorem own_cell {w : World} {B E : Nat} {v : Value} {rs : List Value} (h : w.ownsRow B E 1 v rs.length rs) (h0 : 0 < rs.length) : ∃ g c, v = .slice (some ⟨g, 0, none⟩) rs.length c ∧ ∀ i u, rs[i]? = some u → w.cell? ⟨g, i, none⟩ = some u := by
  obtain ⟨g, c, hv, hc⟩ := (RowV.of_own h h0).cell
  refine ⟨g, c, hv, fun i u hi => ?_⟩
  have := List.getElem?_eq_some_iff.1 hi
  obtain ⟨hlt, he⟩ := this
  rw [hc i hlt, he]
theorem rows_cell {w : World} {m : Mch} {B : Nat} {v : Value} {rs : List Value} {f : Nat → Nat → Nat} (hs : 1 ≤ m.s) (ho : w.ownsRow B 31 1 v rs.length rs) (hr : RowsV w 2 rs ((List.range m.s).map fun q => i64s ((List.range m.l).map fun x => (f q x : Int)))) :
    ∃ g c, v = .slice (some ⟨g, 0, none⟩) m.s c ∧ ∀ q, q < m.s → ∃ g' c', w.cell? ⟨g, q, none⟩ = some (.slice (some ⟨g', 0, none⟩) m.l c') ∧ ∀ x, x < m.l → w.cell? ⟨g', x, none⟩ = some (.int .i64 (f q x)) := by
  have hl : rs.length = m.s := by rw [hr.1]; simp
  obtain ⟨g, c, hv, hc⟩ := own_cell ho (by omega)
  refine ⟨g, c, by rw [hv, hl], fun q hq => ?_⟩
  have hq' : q < rs.length := by omega
  have hR := hr.2 q rs[q] (i64s ((List.range m.l).map fun x => (f q x : Int))) (List.getElem?_eq_getElem hq') (by simp [hq])
  obtain ⟨g', c', hv', hx⟩ := hR.cell
  refine ⟨g', c', ?_, fun x hx' => ?_⟩
  · rw [hc q _ (List.getElem?_eq_getElem hq'), hv']; simp [i64s]
  · rw [hx x (by simpa [i64s] using hx')]; simp [i64s]
theorem Tab.reads {B : Nat} {w : World} {T : Nat} {m : Mch} (hs : 1 ≤ m.s) (h : Tab B w T (tabN m m.s) (tabO m m.s)) : TabR w T m := by
  obtain ⟨vN, vO, rN, rO, h1, h2, h3, h4, h5, h6, h7⟩ := h
  obtain ⟨gN, cN, eN, hN⟩ := rows_cell (f := m.nn) hs h3 h6
  obtain ⟨gO, cO, eO, hO⟩ := rows_cell (f := m.on) hs h4 h7
  subst eN eO
  exact ⟨gN, cN, gO, cO, h2.cell' rfl, h2.cell' rfl, hN, hO⟩

theorem beq_cast (y x : Nat) : ((y : Int) == (x : Int)) = (y == x) := by
  rw [Bool.eq_iff_iff, beq_iff_eq, beq_iff_eq]; omega
/-- n bools -/
def bvs (n : Nat) (tv : Nat → Bool) : List Value := (List.range n).map fun q => .bool (tv q)
theorem bvs_get {n : Nat} (tv : Nat → Bool) {q : Nat} (h : q < n) : (bvs n tv)[q]? = some (.bool (tv q)) := by simp [bvs, h]
theorem bvs_set {n : Nat} (tv : Nat → Bool) {j : Nat} (b : Bool) (h : j < n) : (bvs n tv).set j (.bool b) = bvs n (upd tv j b) := by
  apply List.ext_getElem?
  intro i
  by_cases hi : i < n
  · rw [bvs_get _ hi]
    by_cases e : i = j
    · subst e; rw [List.getElem?_set_self (by simpa [bvs] using h)]; simp [upd]
    · rw [List.getElem?_set_ne (by omega), bvs_get _ hi]; simp [upd, e]
  · rw [List.getElem?_eq_none (by simp [bvs]; omega), List.getElem?_eq_none (by simp [bvs]; omega)]
theorem Try.info4 : (Try.prog.info? 4).map (fun i => (i.zero, i.size, i.bytes)) = some (some (.bool false), 1, 1) := by kernel_rfl
/-- 'make([]bool, n)' -/
theorem mk_bool (n : Nat) (hn : n ≤ 100000) (u : World) : (Instr.makeSlice 57 (.int .i64 (n : Int)) (.int .i64 (n : Int))).run Try.prog u =
    .ok (.slice (some ⟨u.heap.size, 0, none⟩) n n) (u.alloc (.cells (madeCells #[.bool false] n) 4)) := by
  obtain ⟨i0, hi, hz0, hz1, hz2⟩ := info_parts Try.info4
  have h := run_make (P := Try.prog) u 57 4 i0 (.bool false) Try.underlying57 hi hz0 .i64 .i64 (n : Int) (n : Int) (by omega) (Int.le_refl _) (by rw [hz2]; omega) (by omega)
  simpa [hz1, Value.cells] using h
theorem made_bool (n : Nat) : (madeCells #[Value.bool false] n).toList = bvs n fun _ => false := by
  simp only [madeCells, Array.toList_map, Array.toList_range, bvs]
  exact List.map_congr_left fun x _ => by simp [Nat.mod_one]

/-- the memory of the program's rounds -/
structure PW (w wr : World) (m : Mch) (T : Nat) (tv : Nat → Bool) : Prop where
  tab : TabR wr T m
  out : Blk wr w.heap.size (bvs m.s tv) 4
  var : Blk wr (w.heap.size + 1) [.slice (some ⟨w.heap.size, 0, none⟩) m.s m.s] 57
  below : Below w.heap.size w wr
theorem PW.set {w wr : World} {m : Mch} {T : Nat} {tv : Nat → Bool} (h : PW w wr m T tv) (htab : TabR w T m) {j : Nat} (hj : j < m.s) (b : Bool) : PW w (wr.setCell ⟨w.heap.size, j, none⟩ (.bool b)) m T (upd tv j b) :=
  have hb := h.below.setCell (p := ⟨w.heap.size, j, none⟩) (Nat.le_refl _) (.bool b)
  ⟨htab.keep hb, by rw [← bvs_set tv b hj]; exact h.out.setCell _ _, h.var.setOther (by simp) _, hb⟩

theorem PW.drew {w wr : World} {m : Mch} {T : Nat} {tv : Nat → Bool} (h : PW w wr m T tv) : PW w wr.drew m T tv := ⟨h.tab.keep (Below.refl _ _).drew, h.out, h.var, h.below.drew⟩

def _root_.Go.Value.isTrue : Value → Bool | .bool b => b | _ => false
/-- how many of the first n cells of a block are true -/
def trueAt (w : World) (b q : Nat) : Bool := match w.cell? ⟨b, q, none⟩ with | some v => v.isTrue | none => false
def cntW (w : World) (b n : Nat) : Nat := ((List.range n).filter fun q => trueAt w b q).length
theorem PW.cnt {w wr : World} {m : Mch} {T : Nat} {tv : Nat → Bool} (h : PW w wr m T tv) : cntW wr w.heap.size m.s = cntT m.s tv := by
  simp only [cntW, cntT]
  congr 1
  refine List.filter_congr fun q hq => ?_
  simp only [trueAt, h.out.cell' (bvs_get tv (by simpa using hq)), Value.isTrue]

theorem enters_trivial : Enters 81 := fun args w => by kernel_rfl
theorem trivial1_any (w wr : World) (m : Mch) (T : Nat) (tv : Nat → Bool) (h : PW w wr m T tv) (r : Nat) (hr : r < m.s) :
    Calls Try.prog 81 #[.int .i64 (r : Int), .pointer (some ⟨w.heap.size + 1, 0, none⟩)] wr fun e w' => e = .returned (.bool (!tv r)) ∧ w' = wr := by
  have hv : wr.cell? ⟨w.heap.size + 1, 0, none⟩ = some (.slice (some ⟨w.heap.size, 0, none⟩) m.s m.s) := h.var.cell' rfl
  have hck := h.out.cell' (bvs_get tv hr)
  have i1 : (0 : Int) ≤ (r : Int) := by omega
  have i2 : (r : Int) < (m.s : Int) := by omega
  clear h
  go_enter Try.func81, Try.ntmps81
  go_wp2
  go_ret
  exact ⟨rfl, rfl⟩

set_option maxRecDepth 100000 in
set_option maxHeartbeats 4000000 in
theorem tableTrivial_any (T : Nat) (m : Mch) (hwf : m.Wf) (hok : m.Ok) (w : World) (hT : TabR w T m) :
    Calls Try.prog 59 #[.pointer (some ⟨T, 0, none⟩)] w (fun e w' => ∃ g, e = .returned (.slice (some ⟨g, 0, none⟩) m.s m.s) ∧ Below w.heap.size w w' ∧ Blk w' g (bvs m.s (trivB m)) 4) := by
  have hs16 := hok.s_le
  have hl3 := hok.l_le
  have hmk := mk_bool m.s (by omega) w
  obtain ⟨gN, cN, gO, cO, h1, h2, h3, h4⟩ := id hT
  have H3 := Lib.hid h3
  have H4 := Lib.hid h4
  clear h3 h4
  have hTw : T < w.heap.size := World.block_lt_of_cell? w _ h1
  go_enter Try.func59, Try.ntmps59
  go_wp2
  clear hmk
  go_loopw [22] (fun i wr => ∃ k : Nat, k ≤ m.s ∧ i = .int .i64 k ∧ PW w wr m T (fstP m k)) (fun i _ => m.s - (intOf i).toNat)
  case atStart =>
    have hb1 : Below w.heap.size w (w.alloc (.cells (madeCells #[.bool false] m.s) 4)) := boxedBelow _ _ _
    have hb2 := hb1.alloc (by simp) (.cells #[.slice (some ⟨w.heap.size, 0, none⟩) m.s m.s] 57)
    have ho := (Blk.new w (madeCells #[.bool false] m.s) 4).alloc (.cells #[.slice (some ⟨w.heap.size, 0, none⟩) m.s m.s] 57)
    have hv := Blk.new (w.alloc (.cells (madeCells #[.bool false] m.s) 4)) #[.slice (some ⟨w.heap.size, 0, none⟩) m.s m.s] 57
    rw [made_bool] at ho
    rw [show (w.alloc (.cells (madeCells #[.bool false] m.s) 4)).heap.size = w.heap.size + 1 by simp] at hv
    exact ⟨0, Nat.zero_le _, rfl, hT.keep hb2, by rw [show fstP m 0 = fun _ => false from funext fun q => by simp [fstP]]; exact ho, hv, hb2⟩
  case round =>
    obtain ⟨k, hk, rfl, hP⟩ := hrel
    by_cases hlt : k < m.s
    · obtain ⟨g, cg, hcg, hrow⟩ := H4.out k hlt
      have hgw : gO < w.heap.size := World.block_lt_of_cell? w _ hcg
      have hcg' : wr.cell? ⟨gO, k, none⟩ = some (.slice (some ⟨g, 0, none⟩) m.l cg) := (hP.below.cell (p := ⟨gO, k, none⟩) hgw).trans hcg
      have hv : wr.cell? ⟨w.heap.size + 1, 0, none⟩ = some (.slice (some ⟨w.heap.size, 0, none⟩) m.s m.s) := hP.var.cell' rfl
      have hck := hP.out.cell' (bvs_get (fstP m k) hlt)
      have hfk := hP.out.free k
      have i1 : (0 : Int) ≤ (k : Int) := by omega
      have i2 : (k : Int) < (m.s : Int) := by omega
      have HROW := Lib.hid hrow
      have hP2 := hP.set hT hlt true
      rw [fstX_zero] at hP2
      clear hrow
      go_wp2
      clear hcg' hv hck hfk
      go_loopw [32] (fun i wi => ∃ x : Nat, x ≤ m.l ∧ i = .int .i64 x ∧ PW w wi m T (fstX m k x)) (fun i _ => m.l - (intOf i).toNat)
      case atStart => exact ⟨0, Nat.zero_le _, rfl, hP2⟩
      case round =>
        clear hP hP2
        obtain ⟨x, hx, rfl, hP⟩ := hrel
        by_cases hxlt : x < m.l
        · have hcx := HROW.out x hxlt
          have hgx : g < w.heap.size := World.block_lt_of_cell? w _ hcx
          rw [← hP.below.cell (p := ⟨g, x, none⟩) hgx] at hcx
          have hck := hP.out.cell' (bvs_get (fstX m k x) hlt)
          have hfk := hP.out.free k
          have hv : wr.cell? ⟨w.heap.size + 1, 0, none⟩ = some (.slice (some ⟨w.heap.size, 0, none⟩) m.s m.s) := hP.var.cell' rfl
          have HSET : Hid (∀ b, b = (fstX m k x k && (m.on k x == x)) → PW w (wr.drew.setCell ⟨w.heap.size, k, none⟩ (.bool b)) m T (fstX m k (x + 1))) := fun b hb => by
            have := hP.drew.set hT hlt b
            rw [hb, fstX_succ] at this
            rw [hb]; exact this
          have j1 : (0 : Int) ≤ (x : Int) := by omega
          have j2 : (x : Int) < (m.l : Int) := by omega
          have hy3 : m.on k x < 3 := by have := hok.on_lt hwf hlt hxlt; omega
          clear hP
          generalize m.on k x = y at *
          cases h0 : fstX m k x k
          · rw [h0] at hck HSET
            clear h0
            go_wp2
            go_still_tail 12, (by kernel_rfl)
            change wpList _ _ _ _ _ wr.drew
            have hck2 : wr.drew.cell? ⟨w.heap.size, k, none⟩ = _ := hck
            have hfk2 : wr.drew.frozen? ⟨w.heap.size, k, none⟩ = false := hfk
            have hset := Lib.hid (HSET.out false (by simp))
            clear hck hfk hv hcx HSET
            generalize wr.drew = w2 at *
            go_wp2
            go_roundw
            case rel => exact ⟨x + 1, by omega, by go_num, hset.out⟩
            case measure => simp [intOf]; omega
          · rw [h0] at hck HSET
            clear h0
            have hset := Lib.hid (HSET.out ((y : Int) == (x : Int)) (by rw [beq_cast]; simp))
            go_wp2
            go_still_tail 12, (by kernel_rfl)
            change wpList _ _ _ _ _ wr.drew
            have hck2 : wr.drew.cell? ⟨w.heap.size, k, none⟩ = _ := hck
            have hfk2 : wr.drew.frozen? ⟨w.heap.size, k, none⟩ = false := hfk
            clear hck hfk hv hcx HSET
            generalize wr.drew = w2 at *
            go_wp2
            go_roundw
            case rel => exact ⟨x + 1, by omega, by go_num, hset.out⟩
            case measure => simp [intOf]; omega
        · have hx' : x = m.l := by omega
          subst hx'
          rw [fstX_fin m hlt] at hP
          go_wp2
          go_roundw
          case rel => exact ⟨k + 1, by omega, by go_num, hP⟩
          case measure => simp [intOf]; omega
    · have hk' : k = m.s := by omega
      subst hk'
      have hI0 := Lib.hid (PInv.start m)
      go_wp2
      go_loopw [8] (fun v wi => ∃ (a : Bool) (tv : Nat → Bool), v = .bool a ∧ PW w wi m T tv ∧ Hid (PInv m tv a m.s)) (fun v wi => (if v.isTrue then 1 else 0) + cntW wi w.heap.size m.s)
      case atStart => exact ⟨true, _, rfl, hP, ⟨hI0.out.keep, hI0.out.outs, hI0.out.none, fun h => by cases h⟩⟩
      case round =>
        clear hP hI0
        obtain ⟨a, tv, rfl, hP, HI⟩ := hrel
        have hc1 : wr.cell? ⟨T, 0, none⟩ = some (.slice (some ⟨gN, 0, none⟩) m.s cN) := (hP.below.cell (p := ⟨T, 0, none⟩) hTw).trans h1
        have hv : wr.cell? ⟨w.heap.size + 1, 0, none⟩ = some (.slice (some ⟨w.heap.size, 0, none⟩) m.s m.s) := hP.var.cell' rfl
        cases a
        · have HF := Lib.hid (HI.out.fin hok hwf)
          go_wp2
          go_ret
          exact ⟨_, rfl, hP.below, by rw [← HF.out]; exact hP.out⟩
        · have HC0 := Lib.hid (hP.cnt)
          go_wp2
          obtain ⟨wo, rfl⟩ : ∃ wo : World, wo = wr := ⟨_, rfl⟩
          go_loopw [8, 57] (fun v i wi => ∃ (j : Nat) (a : Bool) (tv' : Nat → Bool), j ≤ m.s ∧ i = .int .i64 j ∧ v = .bool a ∧ PW w wi m T tv' ∧ Hid (PInv m tv' a j) ∧ Hid (cntT m.s tv' ≤ cntT m.s tv ∧ (a = true → cntT m.s tv' < cntT m.s tv))) (fun _ i _ => m.s - (intOf i).toNat)
          case atStart => exact ⟨0, false, tv, Nat.zero_le _, rfl, rfl, hP, HI.out.begin, Nat.le_refl _, fun h => by cases h⟩
          case round =>
            clear hP hc1 hv
            obtain ⟨j, a, tv', hj, rfl, rfl, hP, HJ, HC⟩ := hrel
            have hv : wr.cell? ⟨w.heap.size + 1, 0, none⟩ = some (.slice (some ⟨w.heap.size, 0, none⟩) m.s m.s) := hP.var.cell' rfl
            by_cases hjlt : j < m.s
            · obtain ⟨g, cg, hcg, hrow⟩ := H3.out j hjlt
              have hgw : gN < w.heap.size := World.block_lt_of_cell? w _ hcg
              have hcg' : wr.cell? ⟨gN, j, none⟩ = some (.slice (some ⟨g, 0, none⟩) m.l cg) := (hP.below.cell (p := ⟨gN, j, none⟩) hgw).trans hcg
              have hcj := hP.out.cell' (bvs_get tv' hjlt)
              have hfj := hP.out.free j
              have i1 : (0 : Int) ≤ (j : Int) := by omega
              have i2 : (j : Int) < (m.s : Int) := by omega
              have HROW := Lib.hid hrow
              clear hrow hcg
              cases h0 : tv' j
              · rw [h0] at hcj
                have HN : Hid (PInv m tv' a (j + 1)) := HJ.out.pass fun h => by rw [h0] at h; cases h
                clear h0 HJ
                go_wp2
                go_roundw
                case rel => exact ⟨j + 1, a, tv', by omega, by go_num, rfl, hP, HN, HC⟩
                case measure => simp [intOf]; omega
              · rw [h0] at hcj
                have hxl : (nxR m j m.l).length = m.l := by simp [nxR]
                have hcall := containsFuncI_any 81 enters_trivial #[.pointer (some ⟨w.heap.size + 1, 0, none⟩)] (some ⟨g, 0, none⟩) (nxR m j m.l) cg (by omega) (fun r => !tv' r.toNat) wr (fun w' => w' = wr) rfl
                  (fun w' h i hi => by
                    rw [hxl] at hi
                    refine ⟨g, 0, rfl, ?_⟩
                    have hx := HROW.out i hi
                    rw [h, Nat.zero_add, hP.below.cell (p := ⟨g, i, none⟩) (World.block_lt_of_cell? w _ hx), hx]
                    simp [nxR, hi])
                  (fun w' h i hi => by
                    have hi' := hi
                    rw [hxl] at hi'
                    have e : (nxR m j m.l)[i] = ((m.nn j i : Nat) : Int) := by simp [nxR]
                    rw [h, e]
                    exact trivial1_any w wr m T tv' hP (m.nn j i) (hok.nn_lt hwf hjlt hi'))
                rw [hxl] at hcall
                have hany : (nxR m j m.l).any (fun r => !tv' r.toNat) = (List.range m.l).any fun x => !tv' (m.nn j x) := by simp [nxR, List.any_map, Function.comp_def]
                rw [hany] at hcall
                clear hxl hany
                have HT1 : Hid (tv' j = true) := h0
                clear h0
                cases h1 : (List.range m.l).any fun x => !tv' (m.nn j x)
                · rw [h1] at hcall
                  have HN : Hid (PInv m tv' a (j + 1)) := HJ.out.pass fun _ x hx => by
                    have := (List.any_eq_false.1 h1) x (by simpa using hx)
                    simpa using this
                  have HCALL := Lib.hid hcall
                  clear h1 HJ hcall
                  go_wp2_with fail
                  refine HCALL.out.mono ?_
                  rintro e w' ⟨rfl, rfl⟩
                  go_wp2
                  go_roundw
                  case rel => exact ⟨j + 1, a, tv', by omega, by go_num, rfl, hP, HN, HC⟩
                  case measure => simp [intOf]; omega
                · rw [h1] at hcall
                  obtain ⟨x, hx, hxn⟩ := List.any_eq_true.1 h1
                  have hx' : x < m.l := by simpa using hx
                  have HN := Lib.hid (HJ.out.out hok hwf hjlt hx' (by simpa using hxn))
                  have HPS := Lib.hid (hP.set hT hjlt false)
                  have HD := Lib.hid (cntT_upd hjlt HT1.out)
                  have HC2 : Hid (cntT m.s (upd tv' j false) < cntT m.s tv) := by have := HD.out; have := HC.out.1; show _ < _; omega
                  have HCALL := Lib.hid hcall
                  clear h1 HJ hcall hx hxn hx' HD HC HT1
                  go_wp2_with fail
                  refine HCALL.out.mono ?_
                  rintro e w' ⟨rfl, rfl⟩
                  go_wp2
                  go_roundw
                  case rel => exact ⟨j + 1, true, _, by omega, by go_num, rfl, HPS.out, HN.out, Nat.le_of_lt HC2.out, fun _ => HC2.out⟩
                  case measure => simp [intOf]; omega
            · have hj' : j = m.s := by omega
              have HN : Hid (PInv m tv' a m.s) := hj' ▸ HJ
              have HM : Hid ((if (Value.bool a).isTrue then 1 else 0) + cntW wr w.heap.size m.s < (if (Value.bool true).isTrue then 1 else 0) + cntW wo w.heap.size m.s) := by
                show _ < _
                rw [hP.cnt, HC0.out]
                have := HC.out
                cases a
                · simp [Value.isTrue]; omega
                · simp [Value.isTrue]; have := this.2 rfl; omega
              clear hj' HJ HC
              go_wp2
              go_roundw
              case rel => exact ⟨a, tv', rfl, hP, HN⟩
              case measure => simpa using HM.out
end Go.Proofs.Ythgkkaifdlkciaa
