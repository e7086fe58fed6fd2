import Derived.Test.YthgkkaifdlkciaaYTile08
import Derived.Test.YthgkkaifdlkciaaYTile06
/- TileEdges of both sides. -/
namespace Go.Proofs.Ythgkkaifdlkciaa
open Go.RowKit
set_option linter.unusedVariables false
set_option linter.unusedSimpArgs false

/-! edges -/
end Go.Proofs.Ythgkkaifdlkciaa

/- l09Parts. -/
namespace Go.Proofs.Ythgkkaifdlkciaa
open Go.RowKit
set_option linter.unusedVariables false
set_option linter.unusedSimpArgs false

theorem pP_len (J : Nat → Nat → Bool) (N : Nat) : ∀ k, (pP J N k).2.length ≤ k
  | 0 => by simp [pP]
  | k + 1 => by
    have := pP_len J N k
    rw [pP]
    split
    · omega
    · simp only [List.length_append, List.length_singleton]; omega
theorem srtQ_len (N : Nat) (Q : List Nat) : (srtQ N Q).length ≤ N := by
  unfold srtQ
  have := List.length_filter_le (fun j => decide (j ∈ Q)) (List.range N)
  rwa [List.length_range] at this
theorem srtQ_succ (j : Nat) (Q : List Nat) : srtQ (j + 1) Q = srtQ j Q ++ if decide (j ∈ Q) = true then [j] else [] := by
  unfold srtQ
  rw [List.range_succ, List.filter_append]
  congr 1
  rw [List.filter_cons, List.filter_nil]
/-- j is among the first k of Q -/
def inQ (Q : List Nat) (j k : Nat) : Bool := decide (j ∈ Q.take k)
theorem inQ_zero (Q : List Nat) (j : Nat) : inQ Q j 0 = false := by simp [inQ]
theorem inQ_end (Q : List Nat) (j : Nat) : inQ Q j Q.length = decide (j ∈ Q) := by simp [inQ]
theorem take_succ_get {Q : List Nat} {k : Nat} (hk : k < Q.length) : Q.take (k + 1) = Q.take k ++ [Q[k]?.getD 0] := by
  rw [List.take_add_one, List.getElem?_eq_getElem hk]; rfl
theorem inQ_hit {Q : List Nat} (hd : Q.Nodup) {j k : Nat} (hk : k < Q.length) (h : Q[k]?.getD 0 = j) : inQ Q j k = false ∧ inQ Q j (k + 1) = true := by
  unfold inQ
  rw [take_succ_get hk, h]
  refine ⟨?_, by simp⟩
  rw [decide_eq_false_iff_not]
  intro hm
  have hs : (Q.take (k + 1)).Nodup := hd.sublist (List.take_sublist _ _)
  rw [take_succ_get hk, h, List.nodup_append] at hs
  exact hs.2.2 j hm j (by simp) rfl
theorem inQ_miss {Q : List Nat} {j k : Nat} (hk : k < Q.length) (h : Q[k]?.getD 0 ≠ j) : inQ Q j (k + 1) = inQ Q j k := by
  unfold inQ
  rw [take_succ_get hk]
  have : ¬ j = Q[k]?.getD 0 := fun e => h e.symm
  simp [this]
theorem i64n_len (Q : List Nat) : (i64s (natsI Q)).length = Q.length := by simp [i64s, natsI]
theorem i64n_snoc (Q : List Nat) (l : Nat) : i64s (natsI (Q ++ [l])) = i64s (natsI Q) ++ [.int .i64 (l : Int)] := by simp [i64s, natsI]
theorem Mm.readN {B : Nat} {w0 w : World} {L : List (Nat × List Value × TypeId)} {G : List (Value × TypeId × List Value)} (h : Mm B w0 w L G) (i : Nat) {v : Value} {E : TypeId} {Q : List Nat} (hi : G[i]? = some (v, E, i64s (natsI Q))) (h0 : 0 < Q.length) :
    ∃ g c, v = .slice (some ⟨g, 0, none⟩) Q.length c ∧ ∀ k, k < Q.length → w.cell? ⟨g, k, none⟩ = some (.int .i64 ((Q[k]?.getD 0 : Nat) : Int)) := by
  have ho := h.own _ (mem_of_get hi)
  simp only at ho
  rcases id ho.2 with ⟨e, hn⟩ | ⟨g, cap, cur, e, -⟩
  · rw [i64n_len] at hn; omega
  · refine ⟨g, cap, by rw [e, i64n_len], fun k hk => ?_⟩
    have hx : (i64s (natsI Q))[k]? = some (.int .i64 ((Q[k]?.getD 0 : Nat) : Int)) := by simp [i64s, natsI, List.getElem?_map, List.getElem?_eq_getElem hk]
    have := World.ownsRow.cells ho (g := g) (by rw [e]; rfl) k _ hx
    rwa [show (⟨g, 0, none⟩ : Addr).add k = ⟨g, k, none⟩ by unfold Addr.add; split <;> simp_all] at this
theorem Mm.rowPutL {B : Nat} {w0 w : World} {L : List (Nat × List Value × TypeId)} {rv : List Value} {rows : List (List Int)} {v' r : Value} {xs : List Int} (h : Mm B w0 w L ((r, 2, i64s xs) :: (v', 31, rv ++ [r]) :: rowG rv rows)) (hl : rv.length = rows.length) : Mm B w0 w L ((v', 31, rv ++ [r]) :: rowG (rv ++ [r]) (rows ++ [xs])) := by
  rw [rowG_snoc r xs hl]
  exact h.permG ((List.Perm.swap _ _ _).trans (List.Perm.cons _ (List.perm_append_singleton _ _).symm))
def ptI (ps : List (List Nat)) : List (List Int) := ps.map natsI
theorem ptI_len (ps : List (List Nat)) : (ptI ps).length = ps.length := by simp [ptI]
theorem ptI_snoc (ps : List (List Nat)) (p : List Nat) : ptI (ps ++ [p]) = ptI ps ++ [natsI p] := by simp [ptI]
theorem pP_old {J : Nat → Nat → Bool} {N k : Nat} {sn : Nat → Bool} {ps : List (List Nat)} (h : pP J N k = (sn, ps)) (hk : sn k = true) : pP J N (k + 1) = (sn, ps) := by
  rw [pP, h]; simp only; rw [if_pos hk]
theorem pP_new {J : Nat → Nat → Bool} {N k : Nat} {sn : Nat → Bool} {ps : List (List Nat)} (h : pP J N k = (sn, ps)) (hk : sn k = false) {s : PSt} (hs : pQ J N N (upd sn k true, [k]) = s) : pP J N (k + 1) = (s.1, ps ++ [srtQ N s.2]) := by
  rw [pP, h]; simp only; rw [if_neg (by rw [hk]; simp), hs]
theorem get_prefix {Q R : List Nat} {i : Nat} (hi : i < Q.length) : (Q ++ R)[i]?.getD 0 = Q[i]?.getD 0 := by rw [List.getElem?_append_left hi]

theorem infoInt : (Try.prog.info? 3).map (fun i => (i.zero, i.size, i.bytes)) = some (some (.int .i64 0), 1, 8) := by kernel_rfl

set_option maxRecDepth 100000 in
set_option maxHeartbeats 2000000 in
theorem l09Parts_any (J : Nat → Nat → Bool) (P : Nat) (hp : P ≤ 1000) (v : Value) (w : World) (hv : BoolM w v P J) :
    Calls Try.prog 36 #[v] w fun e w' => ∃ u, e = .returned u ∧ Below w.heap.size w w' ∧ OwnII w' w.heap.size u (ptI (pP J P P).2) := by
  obtain ⟨i0, hi, hz0, hz1, hz2⟩ := info_parts Try.info31
  obtain ⟨j0, hj, hy0, hy1, hy2⟩ := info_parts infoInt
  obtain ⟨k0, hk0, hx0, hx1, hx2⟩ := info_parts Try.info2
  obtain ⟨bo, cT, rfl, hcell⟩ := hv
  have HCELL := Lib.hid hcell
  have hmk := mk_bool P (by omega) w
  have hM0 := ((Mm.start w).alloc (madeCells #[.bool false] P) 4).newOwn #[] 31 0 rfl (by omega)
  rw [made_bool, World.size_alloc] at hM0
  have HM0 := Lib.hid hM0
  clear hcell hM0
  go_enter Try.func36, Try.ntmps36
  go_wp2_with fail
  clear hmk
  go_loopw [4, 5] (fun v i wr => ∃ (k : Nat) (rv : List Value) (sn : Nat → Bool) (ps : List (List Nat)), k ≤ P ∧ i = .int .i64 k ∧ Hid (pP J P k = (sn, ps)) ∧ Mm w.heap.size w wr [(w.heap.size, bvs P sn, 4)] ((v, 31, rv) :: rowG rv (ptI ps)) ∧ Hid (rv.length = (ptI ps).length)) (fun _ i _ => P - (intOf i).toNat)
  case atStart => exact ⟨0, [], _, _, Nat.zero_le _, rfl, rfl, HM0.out, rfl⟩
  case round =>
    clear HM0
    obtain ⟨k, rv, sn, ps, hk, rfl, HP, hM, HLR⟩ := hrel
    have hpl : ps.length ≤ k := by have := pP_len J P k; rw [HP.out] at this; exact this
    by_cases hlt : k < P
    · have i1 : (0 : Int) ≤ (k : Int) := by omega
      have i2 : (k : Int) < (P : Int) := by omega
      have c1 := (hM.at 0 rfl).cell' (bvs_get sn hlt)
      cases hsk : sn k with
      | true =>
        rw [hsk] at c1
        have HX := Lib.hid (pP_old HP.out hsk)
        have HM := Lib.hid hM
        clear hM hsk
        go_wp2_with fail
        go_roundw
        case rel => exact ⟨k + 1, rv, sn, ps, by omega, by go_num, HX.out, HM.out, HLR⟩
        case measure => simp [intOf] <;> omega
      | false =>
        rw [hsk] at c1
        have hM1 := hM.newOwn #[.int .i64 (k : Int)] 3 1 rfl (by omega)
        have f1 := (hM1.at 0 rfl).free k
        have c3 := (hM1.at 0 rfl).cell' (bvs_get sn hlt)
        have hM2 := hM1.setCell 0 rfl k (.bool true)
        simp only [List.set_cons_zero] at hM2
        rw [bvs_set sn true hlt] at hM2
        have HNW : Hid (∀ s, pQ J P P (upd sn k true, [k]) = s → pP J P (k + 1) = (s.1, ps ++ [srtQ P s.2])) := fun s hs => pP_new HP.out hsk hs
        have HIN := Lib.hid (PIn.start hlt sn)
        obtain ⟨s0, hs0⟩ : ∃ s0 : PSt, s0 = (upd sn k true, [k]) := ⟨_, rfl⟩
        have HQ0 : Hid (s0.2 = [k]) := by show _ = _; rw [hs0]
        have HM2 : Hid (Mm w.heap.size w ((wr.alloc (.cells #[.int .i64 (k : Int)] 3)).setCell ⟨w.heap.size, k, none⟩ (.bool true)) [(w.heap.size, bvs P s0.1, 4)] ((.slice (some ⟨wr.heap.size, 0, none⟩) 1 1, 3, i64s (natsI s0.2)) :: ((u4, 31, rv) :: rowG rv (ptI ps)))) := by rw [hs0]; exact hM2
        rw [← hs0] at HNW HIN
        clear hM hM1 hM2 hs0 hsk HP
        go_wp2_with fail
        clear c1 f1 c3
        go_loopw [6, 7] (fun vq iv wr => ∃ (i : Nat) (s : PSt), i ≤ s.2.length ∧ iv = .int .i64 i ∧ Hid (pQ J P i s0 = s) ∧ Mm w.heap.size w wr [(w.heap.size, bvs P s.1, 4)] ((vq, 3, i64s (natsI s.2)) :: ((u4, 31, rv) :: rowG rv (ptI ps)))) (fun _ iv _ => P - (intOf iv).toNat)
        case atStart => exact ⟨0, s0, Nat.zero_le _, rfl, rfl, HM2.out⟩
        case round =>
          clear HM2
          obtain ⟨i, s, hi1, rfl, HS, hM⟩ := hrel
          have hin : PIn P s := by have := (PIn.queue (J := J) (i := i) HIN.out).1; rw [HS.out] at this; exact this
          have hsl := hin.len
          have hs1 : 0 < s.2.length := by
            obtain ⟨R, hR⟩ := (PIn.queue (J := J) (i := i) HIN.out).2
            rw [HS.out, HQ0.out] at hR
            rw [hR]; simp
          obtain ⟨gq, cq, rfl, hcq⟩ := hM.readN 0 rfl hs1
          by_cases hilt : i < s.2.length
          · have i4 : (i : Int) < (s.2.length : Int) := by omega
            have i5 : (0 : Int) ≤ (i : Int) := by omega
            obtain ⟨q, hq⟩ : ∃ q, q = s.2[i]?.getD 0 := ⟨_, rfl⟩
            have hqP : q < P := by
              rw [hq, List.getElem?_eq_getElem hilt]
              exact hin.lt _ (List.getElem_mem hilt)
            have HSN : Hid (pQ J P (i + 1) s0 = pRow J q P s) := by show _ = _; rw [pQ, HS.out, if_pos hilt, ← hq]
            have HQR : Hid (∀ l, l ≤ P → PIn P (pRow J q l s) ∧ ∃ R, (pRow J q l s).2 = s.2 ++ R) := fun l hl => PIn.row hl hin
            obtain ⟨gT, c', e1, e2⟩ := HCELL.out q hqP
            have HE1 := Lib.hid e1
            have HE2 := Lib.hid e2
            have HQI := Lib.hid hq
            have HM := Lib.hid hM
            clear e1 e2 hM hq hcq hin
            go_wp2_with fail
            go_loopw [6, 8] (fun vq lv wr => ∃ (l : Nat) (t : PSt), l ≤ P ∧ lv = .int .i64 l ∧ Hid (pRow J q l s = t) ∧ Mm w.heap.size w wr [(w.heap.size, bvs P t.1, 4)] ((vq, 3, i64s (natsI t.2)) :: ((u4, 31, rv) :: rowG rv (ptI ps)))) (fun _ lv _ => P - (intOf lv).toNat)
            case atStart => exact ⟨0, s, Nat.zero_le _, rfl, rfl, HM.out⟩
            case round =>
              clear HM
              obtain ⟨l, t, hl, rfl, HT, hM⟩ := hrel
              obtain ⟨htin, R, hR⟩ := HQR.out l hl
              rw [HT.out] at htin hR
              have htl := htin.len
              have hil2 : i < t.2.length := by rw [hR, List.length_append]; omega
              obtain ⟨gq2, cq2, rfl, hcq⟩ := hM.readN 0 rfl (by omega)
              have cq1 := hcq i hil2
              rw [hR, get_prefix hilt, ← HQI.out] at cq1
              by_cases hllt : l < P
              · have l1 : (0 : Int) ≤ (l : Int) := by omega
                have l2 : (l : Int) < (P : Int) := by omega
                have l3 : (i : Int) < (t.2.length : Int) := by omega
                have q1 : (0 : Int) ≤ (q : Int) := by omega
                have q2 : (q : Int) < (P : Int) := by omega
                have el : IntKind.i64.wrap ((l : Int) + 1) = (l : Int) + 1 := IntWalk.i64_in _ (by omega)
                have cT1 := (hM.below.cell (p := ⟨bo, q, none⟩) (World.block_lt_of_cell? w _ HE1.out)).trans HE1.out
                have cT2 := (hM.below.cell (p := ⟨gT, l, none⟩) (World.block_lt_of_cell? w _ (HE2.out l hllt))).trans (HE2.out l hllt)
                have cs1 := (hM.at 0 rfl).cell' (bvs_get t.1 hllt)
                have fs1 := (hM.at 0 rfl).free l
                have HTS : Hid (pRow J q (l + 1) s = if (J q l && !t.1 l) = true then (upd t.1 l true, t.2 ++ [l]) else t) := by
                  show _ = _; rw [pRow, HT.out]
                have hM2 := hM.setCell 0 rfl l (.bool true)
                simp only [List.set_cons_zero] at hM2
                rw [bvs_set t.1 true hllt] at hM2
                clear htin hR hcq
                have HI64 := Lib.hid (i64n_snoc t.2 l)
                have hxl : (i64s (natsI t.2)).length ≤ 1000000 := by rw [i64n_len]; omega
                have HXL := Lib.hid (i64n_len t.2)
                cases hJ : J q l with
                | false =>
                  rw [hJ] at cT2 HTS
                  have HTS2 : Hid (pRow J q (l + 1) s = t) := by show _ = _; rw [HTS.out]; simp
                  have HM := Lib.hid hM
                  clear hM hM2 HTS hJ cs1 fs1
                  go_wp2_with fail
                  go_roundw
                  case rel => exact ⟨l + 1, t, by omega, by go_num, HTS2.out, HM.out⟩
                  case measure => simp [intOf] <;> omega
                | true =>
                  rw [hJ] at cT2 HTS
                  cases ht1 : t.1 l with
                  | true =>
                    rw [ht1] at cs1 HTS
                    have HTS2 : Hid (pRow J q (l + 1) s = t) := by show _ = _; rw [HTS.out]; simp
                    have HM := Lib.hid hM
                    clear hM hM2 HTS hJ ht1 fs1
                    go_wp2_with fail
                    go_roundw
                    case rel => exact ⟨l + 1, t, by omega, by go_num, HTS2.out, HM.out⟩
                    case measure => simp [intOf] <;> omega
                  | false =>
                    rw [ht1] at cs1 HTS
                    have HTS2 : Hid (pRow J q (l + 1) s = (upd t.1 l true, t.2 ++ [l])) := by show _ = _; rw [HTS.out]; simp
                    clear hM HTS hJ ht1
                    go_wp2_with (at_builtin; refine Mm.appendAt rfl (.tmp 63) (.tmp 65) 84 rfl hM2 0 rfl Try.underlying84 hj hy0 hy1 hy2 rfl rfl wr.heap.size (by simp) rfl rfl hxl (by omega) ?_)
                    intro g6 c6 w6 hM6
                    (try simp only [List.set_cons_zero] at hM6)
                    have HM6 : Hid (Mm w.heap.size w w6 [(w.heap.size, bvs P (upd t.1 l true), 4)] ((.slice (some ⟨g6, 0, none⟩) ((i64s (natsI t.2)).length + 1) c6, 3, i64s (natsI (t.2 ++ [l]))) :: ((u4, 31, rv) :: rowG rv (ptI ps)))) := by
                      show Mm _ _ _ _ _; rw [HI64.out]; exact hM6
                    clear hM2 hM6 cs1 fs1 cT1 cT2 cq1
                    go_wp2_with fail
                    go_roundw
                    case rel => exact ⟨l + 1, (upd t.1 l true, t.2 ++ [l]), by omega, by go_num, HTS2.out, HM6.out⟩
                    case measure => simp [intOf] <;> omega
              · obtain rfl : l = P := by omega
                have l2 : ¬ ((l : Int) < (l : Int)) := by omega
                have HSN2 : Hid (pQ J l (i + 1) s0 = t) := by show _ = _; rw [HSN.out, HT.out]
                have HM := Lib.hid hM
                have ei : IntKind.i64.wrap ((i : Int) + 1) = (i : Int) + 1 := IntWalk.i64_in _ (by omega)
                clear hM hcq htin hR cq1
                go_wp2_with fail
                go_roundw
                case rel => exact ⟨i + 1, t, by omega, by go_num, HSN2.out, HM.out⟩
                case measure => simp [intOf] <;> omega
          · obtain rfl : i = s.2.length := by omega
            have i4 : ¬ ((s.2.length : Int) < (s.2.length : Int)) := by omega
            have HNW2 := Lib.hid (HNW.out s (by rw [← HS.out]; exact pQ_end HIN.out (by rw [HS.out]; exact Nat.le_refl _) hsl))
            have HND := Lib.hid hin.nodup
            have hM1 := (hM.permG (G' := (.slice (some ⟨gq, 0, none⟩) s.2.length cq, 3, i64s (natsI s.2)) :: ((u4, 31, rv) :: rowG rv (ptI ps))) (List.Perm.refl _)).newOwn #[] 2 0 rfl (by omega)
            have HM1 : Hid (Mm w.heap.size w (wr.alloc (.cells #[] 2)) [(w.heap.size, bvs P s.1, 4)] ((.slice (some ⟨wr.heap.size, 0, none⟩) 0 0, 2, i64s (natsI (srtQ 0 s.2))) :: (.slice (some ⟨gq, 0, none⟩) s.2.length cq, 3, i64s (natsI s.2)) :: ((u4, 31, rv) :: rowG rv (ptI ps)))) := hM1
            clear hM hM1 hcq hin HS HNW
            go_wp2_with fail
            go_loopw [9, 10] (fun vo jv wr => ∃ j : Nat, j ≤ P ∧ jv = .int .i64 j ∧ Mm w.heap.size w wr [(w.heap.size, bvs P s.1, 4)] ((vo, 2, i64s (natsI (srtQ j s.2))) :: (.slice (some ⟨gq, 0, none⟩) s.2.length cq, 3, i64s (natsI s.2)) :: ((u4, 31, rv) :: rowG rv (ptI ps)))) (fun _ jv _ => P - (intOf jv).toNat)
            case atStart => exact ⟨0, Nat.zero_le _, rfl, HM1.out⟩
            case round =>
              clear HM1
              obtain ⟨j, hjP, rfl, hM⟩ := hrel
              have ej : IntKind.i64.wrap ((j : Int) + 1) = (j : Int) + 1 := IntWalk.i64_in _ (by omega)
              by_cases hjlt : j < P
              · have j1 : (j : Int) < (P : Int) := by omega
                have HSR := Lib.hid (srtQ_succ j s.2)
                have HSL := Lib.hid (srtQ_len j s.2)
                have HM : Hid (Mm w.heap.size w wr [(w.heap.size, bvs P s.1, 4)] ((u9, 2, i64s (natsI (srtQ j s.2 ++ if inQ s.2 j 0 = true then [j] else []))) :: (.slice (some ⟨gq, 0, none⟩) s.2.length cq, 3, i64s (natsI s.2)) :: ((u4, 31, rv) :: rowG rv (ptI ps)))) := by
                  show Mm _ _ _ _ _
                  rw [inQ_zero]; simpa using hM
                clear hM
                go_wp2_with fail
                go_loopw [9, 11] (fun vo kv wr => ∃ k : Nat, k ≤ s.2.length ∧ kv = .int .i64 k ∧ Mm w.heap.size w wr [(w.heap.size, bvs P s.1, 4)] ((vo, 2, i64s (natsI (srtQ j s.2 ++ if inQ s.2 j k = true then [j] else []))) :: (.slice (some ⟨gq, 0, none⟩) s.2.length cq, 3, i64s (natsI s.2)) :: ((u4, 31, rv) :: rowG rv (ptI ps)))) (fun _ kv _ => P - (intOf kv).toNat)
                case atStart => exact ⟨0, Nat.zero_le _, rfl, HM.out⟩
                case round =>
                  clear HM
                  obtain ⟨y, hy, rfl, hM⟩ := hrel
                  have ey : IntKind.i64.wrap ((y : Int) + 1) = (y : Int) + 1 := IntWalk.i64_in _ (by omega)
                  by_cases hylt : y < s.2.length
                  · have y1 : (y : Int) < (s.2.length : Int) := by omega
                    have y2 : (0 : Int) ≤ (y : Int) := by omega
                    obtain ⟨g2, c2, e2, hc2⟩ := hM.readN 1 rfl (by omega)
                    injection e2 with e2 _ e3
                    injection e2 with e2
                    injection e2 with e2
                    subst e2 e3
                    have cy := hc2 y hylt
                    have HHT := Lib.hid (fun h => inQ_hit HND.out (j := j) hylt h)
                    have HMS := Lib.hid (fun h => inQ_miss (j := j) hylt h)
                    clear hc2
                    generalize s.2[y]?.getD 0 = z at *
                    by_cases hz : z = j
                    · have HH := Lib.hid (HHT.out hz)
                      subst hz
                      rw [HH.out.1] at hM
                      simp only [Bool.false_eq_true, if_false, List.append_nil] at hM
                      have HE : Hid (i64s (natsI (srtQ z s.2 ++ if inQ s.2 z (y + 1) = true then [z] else [])) = i64s (natsI (srtQ z s.2)) ++ [.int .i64 (z : Int)]) := by
                        show _ = _; rw [HH.out.2, if_pos rfl, i64n_snoc]
                      have hxl : (i64s (natsI (srtQ z s.2))).length ≤ 1000000 := by rw [i64n_len]; have := HSL.out; omega
                      have k1 : ((z : Int) == (z : Int)) = true := by simp
                      clear HHT HMS HH
                      go_wp2_with (at_builtin; refine Mm.appendAt rfl (.tmp 86) (.tmp 88) 31 rfl hM 0 rfl Try.underlying31 hk0 hx0 hx1 hx2 rfl rfl wr.heap.size (by simp) rfl rfl hxl (by omega) ?_)
                      intro g6 c6 w6 hM6
                      (try simp only [List.set_cons_zero] at hM6)
                      rw [← HE.out] at hM6
                      have HM6 := Lib.hid hM6
                      clear hM hM6 cy
                      go_wp2_with fail
                      go_roundw
                      case rel => exact ⟨y + 1, by omega, by go_num, HM6.out⟩
                      case measure => simp [intOf] <;> omega
                    · have HH := Lib.hid (HMS.out hz)
                      rw [← HH.out] at hM
                      have HM := Lib.hid hM
                      have k1 : ((z : Int) == (j : Int)) = false := by rw [beq_eq_false_iff_ne]; omega
                      clear HHT HMS HH hM
                      go_wp2_with fail
                      go_roundw
                      case rel => exact ⟨y + 1, by omega, by go_num, HM.out⟩
                      case measure => simp [intOf] <;> omega
                  · obtain rfl : y = s.2.length := by omega
                    have y1 : ¬ ((s.2.length : Int) < (s.2.length : Int)) := by omega
                    rw [inQ_end, ← HSR.out] at hM
                    have HM := Lib.hid hM
                    clear hM
                    go_wp2_with fail
                    go_roundw
                    case rel => exact ⟨j + 1, by omega, by go_num, HM.out⟩
                    case measure => simp [intOf] <;> omega
              · obtain rfl : j = P := by omega
                have j1 : ¬ ((j : Int) < (j : Int)) := by omega
                have hM1 := hM.subG (G' := (u9, 2, i64s (natsI (srtQ j s.2))) :: ((u4, 31, rv) :: rowG rv (ptI ps))) (List.Sublist.cons_cons _ (List.sublist_cons_self _ _))
                obtain ⟨aO, cO, rfl, -⟩ := (OwnI.of_row (hM1.own _ (List.mem_cons_self ..)) : OwnI wr w.heap.size u9 _).form
                have HMZ : Hid (rv.length ≤ 1000000) := by show _ ≤ _; rw [HLR.out, ptI_len]; omega
                have hrl := HMZ.out
                clear hM
                go_wp2_with (at_builtin; refine Mm.appendAt rfl (.tmp 90) (.tmp 92) 40 rfl hM1 1 rfl Try.underlying40 hi hz0 hz1 hz2 rfl rfl wr.heap.size rfl rfl rfl hrl (by omega) ?_)
                intro g6 c6 w6 hM6
                (try simp only [List.set_cons_zero, List.set_cons_succ] at hM6)
                have hM7 := Mm.rowPutL hM6 HLR.out
                rw [← ptI_snoc] at hM7
                have HLR2 : Hid ((rv ++ [(Value.slice aO (natsI (srtQ j s.2)).length cO)]).length = (ptI (ps ++ [srtQ j s.2])).length) := by
                  show _ = _; have h := HLR.out; rw [ptI_len] at h ⊢; simp only [List.length_append, List.length_cons, List.length_nil]; omega
                have HM7 := Lib.hid hM7
                have ek : IntKind.i64.wrap ((k : Int) + 1) = (k : Int) + 1 := IntWalk.i64_in _ (by omega)
                clear hM1 hM6 hM7
                go_wp2_with fail
                go_roundw
                case rel => exact ⟨k + 1, _, _, _, by omega, by go_num, HNW2.out, HM7.out, HLR2⟩
                case measure => simp [intOf] <;> omega
    · obtain rfl : k = P := by omega
      have i2 : ¬ ((k : Int) < (k : Int)) := by omega
      have hO := Lib.hid (OwnII.of (hM.sub (List.nil_sublist _)) HLR.out)
      have HB := Lib.hid hM.below
      have HPE : Hid ((pP J k k).2 = ps) := by show _ = _; rw [HP.out]
      clear hM
      go_wp2_with fail
      go_ret
      rw [HPE.out]
      exact ⟨_, rfl, HB.out, hO.out⟩
end Go.Proofs.Ythgkkaifdlkciaa

/- slices.Sort over a slice of one's own. -/
namespace Go.Proofs.Ythgkkaifdlkciaa
open Go.RowKit Go.Sort
set_option linter.unusedVariables false
set_option linter.unusedSimpArgs false

theorem putCells_take (xs : List Int) (cur : Array Value) (h : xs.length ≤ cur.size) : (putCells (Value.int .i64) 0 xs.toArray cur).toList.take xs.length = i64s xs := by
  apply List.ext_getElem?
  intro i
  by_cases hi : i < xs.length
  · rw [List.getElem?_take_of_lt hi, Array.getElem?_toList]
    simp only [putCells, Array.getElem?_mapIdx]
    rw [Array.getElem?_eq_getElem (by omega)]
    simp only [Option.map_some, Nat.zero_le, true_and, Nat.zero_add, List.size_toArray, hi, if_true, Nat.sub_zero, i64s, List.getElem?_map, List.getElem?_eq_getElem hi]
    congr 1
    congr 1
    rw [getElem!_pos _ i (by simpa using hi)]
    simp
  · rw [List.getElem?_eq_none (by rw [List.length_take]; omega), List.getElem?_eq_none (by simp [i64s]; omega)]
theorem Mm.sorted {B : Nat} {w0 w : World} {L : List (Nat × List Value × TypeId)} {G : List (Value × TypeId × List Value)} (h : Mm B w0 w L G) (i : Nat) {g n c : Nat} {xs : List Int} (hi : G[i]? = some (.slice (some ⟨g, 0, none⟩) n c, 2, i64s xs)) (hn : n = xs.length) (hl : xs.length ≤ 1000000) :
    Calls Try.prog 40 #[.slice (some ⟨g, 0, none⟩) n c] w fun e w' => e = .returned (.tuple #[]) ∧ Mm B w0 w' L (G.set i (.slice (some ⟨g, 0, none⟩) n c, 2, i64s (xs.mergeSort fun x y => decide (x ≤ y)))) := by
  subst hn
  have ho := h.own _ (mem_of_get hi)
  simp only at ho
  have hlt := h.ownlt (mem_of_get hi) (g := g) rfl
  rcases id ho.2 with ⟨e, -⟩ | ⟨g', cap, cur, e, h1, h2, h3, h4, h5, h6⟩
  · cases e
  · injection e with e e0 e1
    injection e with e
    injection e with e
    subst e e1
    have hcells := World.ownsRow.cells ho (g := g) rfl
    have hB : Blk w g cur.toList 2 := by show _ = _; simpa using h2
    have hH : Holds (Value.int .i64) w g 0 xs.toArray := fun j hj => by
      have hj' : j < xs.length := by simpa using hj
      have h7 := hcells j (.int .i64 xs[j]) (by simp [i64s, List.getElem?_map, List.getElem?_eq_getElem hj'])
      rw [show (⟨g, 0, none⟩ : Addr).add j = ⟨g, 0 + j, none⟩ by unfold Addr.add; split <;> simp_all] at h7
      refine ⟨?_, hB.free _⟩
      rw [h7, getElem!_pos _ j (by simpa using hj')]
      simp
    refine (AnyM.slices_Sort_int Try.mSort g 0 c xs w hH hlt (by omega)).mono ?_
    rintro e w' ⟨rfl, m, os, rfl⟩
    refine ⟨rfl, ?_⟩
    have hml : (xs.mergeSort fun x y => decide (x ≤ y)).length = xs.length := List.length_mergeSort _
    refine h.gcall i hi (w' := _) ?_ (n := xs.length) (ys := i64s (xs.mergeSort fun x y => decide (x ≤ y))) ?_ (by rw [i64s_length, hml])
    · refine ⟨rfl, rfl, rfl, ?_, fun k hk hne => ?_⟩
      · simp [Go.Sort.grow, Go.Sort.putRow, Go.Sort.mapBlock, Go.Sort.ahead]
      · have hkg : g ≠ k := fun e => hne (by rw [e]; rfl)
        simp only [Go.Sort.grow, Go.Sort.putRow, Go.Sort.mapBlock, Go.Sort.ahead]
        rw [Array.getElem?_append_left (by simpa using hk), Array.getElem?_modify, if_neg hkg]
    · refine ⟨by rw [i64s_length, hml, Nat.mul_one], .inr ⟨g, c, putCells (Value.int .i64) 0 (xs.mergeSort fun x y => decide (x ≤ y)).toArray cur, rfl, h1, ?_, by rw [i64s_length] at h3; exact h3, h4, ?_, ?_⟩⟩
      · have hlt' : g < w.heap.size := hlt
        simp only [Go.Sort.grow, Go.Sort.putRow, Go.Sort.mapBlock, Go.Sort.ahead]
        rw [Array.getElem?_append_left (by simpa using hlt'), Array.getElem?_modify, if_pos rfl, h2]
        rfl
      · simp only [putCells, Array.size_mapIdx]; exact h5
      · have := putCells_take (xs.mergeSort fun x y => decide (x ≤ y)) cur (by rw [hml]; omega)
        rw [hml] at this
        rwa [Nat.mul_one]
/-- the numbers of a part, sorted -/
theorem sort_nat {N : Nat} {Q : List Nat} (hd : Q.Nodup) (hl : ∀ r ∈ Q, r < N) : (natsI Q).mergeSort (fun x y => decide (x ≤ y)) = natsI (srtQ N Q) := by
  have hp := List.mergeSort_perm (natsI Q) (fun x y => decide (x ≤ y))
  have hs : ((natsI Q).mergeSort fun x y => decide (x ≤ y)).Pairwise fun a b => decide (a ≤ b) = true :=
    List.pairwise_mergeSort (fun a b c h1 h2 => by simp at *; omega) (fun a b => by simp; omega) _
  have hs2 : (natsI (srtQ N Q)).Pairwise (· ≤ ·) := by
    unfold natsI srtQ
    rw [List.pairwise_map]
    refine List.Pairwise.imp (fun {a b} h => ?_) (List.Pairwise.filter _ List.pairwise_lt_range)
    omega
  have hp2 : (natsI Q).Perm (natsI (srtQ N Q)) := by
    refine List.Perm.map _ ?_
    refine (List.perm_ext_iff_of_nodup hd (List.Pairwise.filter _ List.nodup_range)).2 fun a => ?_
    simp only [srtQ, List.mem_filter, List.mem_range, decide_eq_true_eq]
    exact ⟨fun h => ⟨hl a h, h⟩, fun h => h.2⟩
  exact List.Perm.eq_of_pairwise (fun a b _ _ h1 h2 => Int.le_antisymm h1 h2) (hs.imp fun h => by simpa using h) hs2 (hp.trans hp2)
end Go.Proofs.Ythgkkaifdlkciaa

/- TileParts and IsOneTile of both sides. -/
namespace Go.Proofs.Ythgkkaifdlkciaa
open Go.RowKit
set_option linter.unusedVariables false
set_option linter.unusedSimpArgs false

def tpR (m : Mch) (n : Nat) : List (List Nat) := (pP (tileK m n (m.l ^ n)) (m.l ^ n) (m.l ^ n)).2
/-- the parts of the tile graph -/
def tpL (m : Mch) (n : Int) : List (List Int) := if levC m n = 0 then ptI (tpR m n.toNat) else []
theorem pP_row (J : Nat → Nat → Bool) (N : Nat) : ∀ k, ∀ r ∈ (pP J N k).2, r.length ≤ N
  | 0 => fun r hr => by simp [pP] at hr
  | k + 1 => fun r hr => by
    rw [pP] at hr
    split at hr
    · exact pP_row J N k r hr
    · rcases List.mem_append.1 hr with hr | hr
      · exact pP_row J N k r hr
      · rw [List.mem_singleton.1 hr]; exact srtQ_len _ _
theorem sum_lens {rows : List (List Int)} {b : Nat} (h : ∀ r ∈ rows, r.length ≤ b) : (rows.map List.length).sum ≤ rows.length * b := by
  induction rows with
  | nil => simp
  | cons a rows ih =>
    have h1 := h a (List.mem_cons_self ..)
    have h2 := ih fun r hr => h r (List.mem_cons_of_mem _ hr)
    simp only [List.map_cons, List.sum_cons, List.length_cons, Nat.add_mul, Nat.one_mul]
    omega
theorem tpL_rows (m : Mch) (n : Int) : (tpL m n).length ≤ 81 ∧ ∀ r ∈ tpL m n, r.length ≤ 81 := by
  unfold tpL
  split
  · rename_i c0
    obtain ⟨hok, j, rfl, hj, hj5⟩ := levC_zero c0
    have hp := pow_level hok.l_ge hok.l_le hj
    rw [Int.toNat_natCast]
    refine ⟨by rw [ptI_len]; exact Nat.le_trans (pP_len _ _ _) hp, fun r hr => ?_⟩
    obtain ⟨q, hq, rfl⟩ := List.mem_map.1 hr
    rw [show (natsI q).length = q.length by simp [natsI]]
    exact Nat.le_trans (pP_row _ _ _ q hq) hp
  · exact ⟨by simp, fun r hr => by cases hr⟩
theorem tpL_fit (m : Mch) (n : Int) : (tpL m n).length ≤ 100000 ∧ sumLen (tpL m n) (tpL m n).length ≤ 200000 ∧ ∀ i : Nat, ((tpL m n)[i]?.getD []).length ≤ 2000000 := by
  obtain ⟨h1, h2⟩ := tpL_rows m n
  refine ⟨by omega, ?_, fun i => ?_⟩
  · have h3 := sum_lens h2
    have h4 : (tpL m n).length * 81 ≤ 81 * 81 := Nat.mul_le_mul_right 81 h1
    unfold sumLen
    rw [List.take_length]; omega
  · by_cases hi : i < (tpL m n).length
    · rw [List.getElem?_eq_getElem hi, Option.getD_some]
      have := h2 _ (List.getElem_mem hi); omega
    · rw [List.getElem?_eq_none (by omega)]; simp
def ioI (m : Mch) (n : Int) : Bool × Int := (decide ((tpL m n).length = 1), levC m n)

set_option maxRecDepth 100000 in
set_option maxHeartbeats 1000000 in
theorem specTileParts_any (m : Mch) (hwf : m.Wf) (n : Int) (w : World) :
    Calls Try.prog 20 #[.agg m.cells.toArray, .int .i64 n] w (RetII (tpL m n) (levC m n) w) := by
  have hm := MAt.boxed w m 28
  have hb0 := boxedBelow w m.cells.toArray 28
  go_enter Try.func20, Try.ntmps20
  go_wp2_with ((with_reducible refine ld_mach ?_ (.tmp 2) ?_ (w.heap.size) (0) ?_ m hm hwf ?_); exact rfl; exact rfl; exact rfl)
  refine (l05Code_any m hwf n _).mono ?_
  rintro e w1 ⟨rfl, hb1⟩
  have hm1 := hm.keep hb1 hwf
  have hbb1 := hb0.trans (hb1.mono hb0.size)
  by_cases c0 : levC m n = 0
  · obtain ⟨hok, j, rfl, hj, hj5⟩ := levC_zero c0
    have HL : Hid (tpL m j = ptI (pP (tileK m j (m.l ^ j)) (m.l ^ j) (m.l ^ j)).2) := by show _ = _; rw [tpL, if_pos c0, Int.toNat_natCast]; rfl
    have HC := Lib.hid c0
    have hp := pow_level hok.l_ge hok.l_le hj
    rw [c0]
    clear c0
    go_wp2_with ((with_reducible refine ld_mach ?_ (.tmp 2) ?_ (w.heap.size) (0) ?_ m hm1 hwf ?_); exact rfl; exact rfl; exact rfl)
    refine (l09Joined_any m hwf hok j hj _).mono ?_
    rintro e w2 ⟨v2, rfl, hb2, hBM⟩
    have hbb2 := hbb1.trans (hb2.mono hbb1.size)
    have HPT := Lib.hid (l09Parts_any _ _ (by omega) v2 w2 hBM)
    clear hBM hm hm1
    go_wp2_with fail
    refine HPT.out.mono ?_
    rintro e w3 ⟨v3, rfl, hb3, hO⟩
    have HB := Lib.hid (hbb2.trans (hb3.mono hbb2.size))
    have HO := Lib.hid (hO.less hbb2.size)
    clear hO HPT
    go_wp2_with fail
    go_ret2
    rw [HL.out, HC.out]
    exact ⟨_, rfl, HB.out, HO.out⟩
  · have HL : Hid (tpL m n = []) := by show _ = _; rw [tpL, if_neg c0]
    have c1 : (levC m n != 0) = true := by simpa using c0
    clear c0
    generalize hc : levC m n = c at *
    clear hc
    go_wp2_with fail
    go_ret2
    rw [HL.out]
    exact ⟨_, rfl, hbb1, OwnII.nil _ _ hbb1.size⟩

set_option maxRecDepth 100000 in
set_option maxHeartbeats 1000000 in
theorem specIsOneTile_any (m : Mch) (hwf : m.Wf) (n : Int) (w : World) :
    Calls Try.prog 18 #[.agg m.cells.toArray, .int .i64 n] w (Ret2 (.bool (ioI m n).1) (.int .i64 (ioI m n).2) w) := by
  have hm := MAt.boxed w m 28
  have hb0 := boxedBelow w m.cells.toArray 28
  have HI : Hid (ioI m n = (decide ((tpL m n).length = 1), levC m n)) := rfl
  go_enter Try.func18, Try.ntmps18
  go_wp2_with ((with_reducible refine ld_mach ?_ (.tmp 2) ?_ (w.heap.size) (0) ?_ m hm hwf ?_); exact rfl; exact rfl; exact rfl)
  refine (l05Code_any m hwf n _).mono ?_
  rintro e w1 ⟨rfl, hb1⟩
  have hm1 := hm.keep hb1 hwf
  have hbb1 := hb0.trans (hb1.mono hb0.size)
  by_cases c0 : levC m n = 0
  · obtain ⟨hok, j, rfl, hj, hj5⟩ := levC_zero c0
    have HL : Hid (tpL m j = ptI (pP (tileK m j (m.l ^ j)) (m.l ^ j) (m.l ^ j)).2) := by show _ = _; rw [tpL, if_pos c0, Int.toNat_natCast]; rfl
    have HC := Lib.hid c0
    have hp := pow_level hok.l_ge hok.l_le hj
    rw [c0]
    clear c0
    go_wp2_with ((with_reducible refine ld_mach ?_ (.tmp 2) ?_ (w.heap.size) (0) ?_ m hm1 hwf ?_); exact rfl; exact rfl; exact rfl)
    refine (l09Joined_any m hwf hok j hj _).mono ?_
    rintro e w2 ⟨v2, rfl, hb2, hBM⟩
    have hbb2 := hbb1.trans (hb2.mono hbb1.size)
    have HPT := Lib.hid (l09Parts_any _ _ (by omega) v2 w2 hBM)
    clear hBM hm hm1
    go_wp2_with fail
    refine HPT.out.mono ?_
    rintro e w3 ⟨v3, rfl, hb3, hO⟩
    have HB := Lib.hid (hbb2.trans (hb3.mono hbb2.size))
    rw [← HL.out] at hO
    obtain ⟨a, c, rfl, -⟩ := hO.sl
    clear hO HPT HL
    generalize (tpL m j).length = z at *
    by_cases hz : z = 1
    · subst hz
      go_wp2_with fail
      go_ret2
      rw [HI.out, HC.out]
      exact ⟨by simp, HB.out⟩
    · have k1 : ((z : Int) == 1) = false := by rw [beq_eq_false_iff_ne]; omega
      go_wp2_with fail
      go_ret2
      rw [HI.out, HC.out]
      exact ⟨by simp [hz], HB.out⟩
  · have HL : Hid (tpL m n = []) := by show _ = _; rw [tpL, if_neg c0]
    have c1 : (levC m n != 0) = true := by simpa using c0
    clear c0
    generalize hc : levC m n = c at *
    clear hc
    go_wp2_with fail
    go_ret2
    rw [HI.out, HL.out]
    exact ⟨rfl, hbb1⟩

set_option maxRecDepth 100000 in
set_option maxHeartbeats 2000000 in
theorem implTileParts_any (m : Mch) (hwf : m.Wf) (n : Int) (w : World) :
    Calls Try.prog 21 #[.agg m.cells.toArray, .int .i64 n] w (RetII (tpL m n) (levC m n) w) := by
  obtain ⟨i0, hi, hz0, hz1, hz2⟩ := info_parts Try.info31
  obtain ⟨k0, hk0, hx0, hx1, hx2⟩ := info_parts Try.info2
  have hm := MAt.boxed w m 28
  have hb0 := boxedBelow w m.cells.toArray 28
  go_enter Try.func21, Try.ntmps21
  go_wp2_with ((with_reducible refine ld_mach ?_ (.tmp 2) ?_ (w.heap.size) (0) ?_ m hm hwf ?_); exact rfl; exact rfl; exact rfl)
  refine (levelCode_any m hwf n _).mono ?_
  rintro e w1 ⟨rfl, hb1⟩
  have hm1 := hm.keep hb1 hwf
  have hbb1 := hb0.trans (hb1.mono hb0.size)
  by_cases c0 : levC m n = 0
  · obtain ⟨hok, j, rfl, hj, hj5⟩ := levC_zero c0
    have HL : Hid (tpL m j = ptI (pP (tileK m j (m.l ^ j)) (m.l ^ j) (m.l ^ j)).2) := by show _ = _; rw [tpL, if_pos c0, Int.toNat_natCast]; rfl
    have HC := Lib.hid c0
    have hp := pow_level hok.l_ge hok.l_le hj
    rw [c0]
    clear c0
    go_wp2_with fail
    refine (tiles_any w.heap.size m hwf hok j hj _ hm1).mono ?_
    rintro e w2 ⟨v2, rfl, hb2, hBM⟩
    have HBB := Lib.hid (hbb1.trans (hb2.mono hbb1.size))
    clear hm hm1 hb0 hb1 hbb1 hb2
    generalize tileK m j (m.l ^ j) = J at *
    generalize m.l ^ j = P at *
    obtain ⟨bo, cT, rfl, hcell⟩ := hBM
    have HCELL := Lib.hid hcell
    have hmk := mk_bool P (by omega) w2
    have hM0 := ((Mm.start w2).alloc (madeCells #[.bool false] P) 4).addNil 31
    rw [made_bool] at hM0
    have HM0 := Lib.hid hM0
    clear hcell hM0
    go_wp2_with fail
    clear hmk
    go_loopw [9, 28] (fun v i wr => ∃ (k : Nat) (rv : List Value) (sn : Nat → Bool) (ps : List (List Nat)), k ≤ P ∧ i = .int .i64 k ∧ Hid (pP J P k = (sn, ps)) ∧ Mm w2.heap.size w2 wr [(w2.heap.size, bvs P sn, 4)] ((v, 31, rv) :: rowG rv (ptI ps)) ∧ Hid (rv.length = (ptI ps).length)) (fun _ i _ => P - (intOf i).toNat)
    case atStart => exact ⟨0, [], _, _, Nat.zero_le _, rfl, rfl, HM0.out, rfl⟩
    case round =>
      clear HM0
      obtain ⟨k, rv, sn, ps, hk, rfl, HP, hM, HLR⟩ := hrel
      have hpl : ps.length ≤ k := by have := pP_len J P k; rw [HP.out] at this; exact this
      have ek : IntKind.i64.wrap ((k : Int) + 1) = (k : Int) + 1 := IntWalk.i64_in _ (by omega)
      by_cases hlt : k < P
      · have i1 : (0 : Int) ≤ (k : Int) := by omega
        have i2 : (k : Int) < (P : Int) := by omega
        have c1 := (hM.at 0 rfl).cell' (bvs_get sn hlt)
        cases hsk : sn k with
        | true =>
          rw [hsk] at c1
          have HX := Lib.hid (pP_old HP.out hsk)
          have HM := Lib.hid hM
          clear hM hsk
          go_wp2_with fail
          go_roundw
          case rel => exact ⟨k + 1, rv, sn, ps, by omega, by go_num, HX.out, HM.out, HLR⟩
          case measure => simp [intOf] <;> omega
        | false =>
          rw [hsk] at c1
          have f1 := (hM.at 0 rfl).free k
          have hM1 := hM.setCell 0 rfl k (.bool true)
          simp only [List.set_cons_zero] at hM1
          rw [bvs_set sn true hlt] at hM1
          have hM2 := hM1.newOwn #[.int .i64 (k : Int)] 2 1 rfl (by omega)
          simp only [World.size_setCell] at hM2
          have HNW : Hid (∀ s, pQ J P P (upd sn k true, [k]) = s → pP J P (k + 1) = (s.1, ps ++ [srtQ P s.2])) := fun s hs => pP_new HP.out hsk hs
          have HIN := Lib.hid (PIn.start hlt sn)
          obtain ⟨s0, hs0⟩ : ∃ s0 : PSt, s0 = (upd sn k true, [k]) := ⟨_, rfl⟩
          have HQ0 : Hid (s0.2 = [k]) := by show _ = _; rw [hs0]
          have HM2 : Hid (Mm w2.heap.size w2 ((wr.setCell ⟨w2.heap.size, k, none⟩ (.bool true)).alloc (.cells #[.int .i64 (k : Int)] 2)) [(w2.heap.size, bvs P s0.1, 4)] ((.slice (some ⟨wr.heap.size, 0, none⟩) 1 1, 2, i64s (natsI s0.2)) :: ((u9, 31, rv) :: rowG rv (ptI ps)))) := by rw [hs0]; exact hM2
          rw [← hs0] at HNW HIN
          clear hM hM1 hM2 hs0 hsk HP
          go_wp2_with fail
          clear c1 f1
          go_loopw [11, 12] (fun vq iv wr => ∃ (i : Nat) (s : PSt), i ≤ s.2.length ∧ iv = .int .i64 i ∧ Hid (pQ J P i s0 = s) ∧ Mm w2.heap.size w2 wr [(w2.heap.size, bvs P s.1, 4)] ((vq, 2, i64s (natsI s.2)) :: ((u9, 31, rv) :: rowG rv (ptI ps)))) (fun _ iv _ => P - (intOf iv).toNat)
          case atStart => exact ⟨0, s0, Nat.zero_le _, rfl, rfl, HM2.out⟩
          case round =>
            clear HM2
            obtain ⟨i, s, hi1, rfl, HS, hM⟩ := hrel
            have hin : PIn P s := by have := (PIn.queue (J := J) (i := i) HIN.out).1; rw [HS.out] at this; exact this
            have hsl := hin.len
            have hs1 : 0 < s.2.length := by
              obtain ⟨R, hR⟩ := (PIn.queue (J := J) (i := i) HIN.out).2
              rw [HS.out, HQ0.out] at hR
              rw [hR]; simp
            obtain ⟨gq, cq, rfl, hcq⟩ := hM.readN 0 rfl hs1
            by_cases hilt : i < s.2.length
            · have i4 : (i : Int) < (s.2.length : Int) := by omega
              have i5 : (0 : Int) ≤ (i : Int) := by omega
              have ei : IntKind.i64.wrap ((i : Int) + 1) = (i : Int) + 1 := IntWalk.i64_in _ (by omega)
              have cq1 := hcq i hilt
              obtain ⟨q, hq⟩ : ∃ q, q = s.2[i]?.getD 0 := ⟨_, rfl⟩
              rw [← hq] at cq1
              have hqP : q < P := by
                rw [hq, List.getElem?_eq_getElem hilt]
                exact hin.lt _ (List.getElem_mem hilt)
              have q1 : (0 : Int) ≤ (q : Int) := by omega
              have q2 : (q : Int) < (P : Int) := by omega
              have HSN : Hid (pQ J P (i + 1) s0 = pRow J q P s) := by show _ = _; rw [pQ, HS.out, if_pos hilt, ← hq]
              have HQR : Hid (∀ l, l ≤ P → PIn P (pRow J q l s) ∧ ∃ R, (pRow J q l s).2 = s.2 ++ R) := fun l hl => PIn.row hl hin
              obtain ⟨gT, c', e1, e2⟩ := HCELL.out q hqP
              have HE2 := Lib.hid e2
              have cT1 := (hM.below.cell (p := ⟨bo, q, none⟩) (World.block_lt_of_cell? w2 _ e1)).trans e1
              have HM := Lib.hid hM
              clear e1 e2 hM hq hcq hin
              go_wp2_with fail
              clear cT1 cq1
              go_loopw [11, 54] (fun vq lv wr => ∃ (l : Nat) (t : PSt), l ≤ P ∧ lv = .int .i64 l ∧ Hid (pRow J q l s = t) ∧ Mm w2.heap.size w2 wr [(w2.heap.size, bvs P t.1, 4)] ((vq, 2, i64s (natsI t.2)) :: ((u9, 31, rv) :: rowG rv (ptI ps)))) (fun _ lv _ => P - (intOf lv).toNat)
              case atStart => exact ⟨0, s, Nat.zero_le _, rfl, rfl, HM.out⟩
              case round =>
                clear HM
                obtain ⟨l, t, hl, rfl, HT, hM⟩ := hrel
                obtain ⟨htin, R, hR⟩ := HQR.out l hl
                rw [HT.out] at htin hR
                have htl := htin.len
                have ht1l : 0 < t.2.length := by rw [hR, List.length_append]; omega
                obtain ⟨gq2, cq2, rfl, hcq⟩ := hM.readN 0 rfl ht1l
                by_cases hllt : l < P
                · have l1 : (0 : Int) ≤ (l : Int) := by omega
                  have l2 : (l : Int) < (P : Int) := by omega
                  have el : IntKind.i64.wrap ((l : Int) + 1) = (l : Int) + 1 := IntWalk.i64_in _ (by omega)
                  have cT2 := (hM.below.cell (p := ⟨gT, l, none⟩) (World.block_lt_of_cell? w2 _ (HE2.out l hllt))).trans (HE2.out l hllt)
                  have cs1 := (hM.at 0 rfl).cell' (bvs_get t.1 hllt)
                  have fs1 := (hM.at 0 rfl).free l
                  have HTS : Hid (pRow J q (l + 1) s = if (J q l && !t.1 l) = true then (upd t.1 l true, t.2 ++ [l]) else t) := by
                    show _ = _; rw [pRow, HT.out]
                  have hM2 := hM.setCell 0 rfl l (.bool true)
                  simp only [List.set_cons_zero] at hM2
                  rw [bvs_set t.1 true hllt] at hM2
                  clear htin hR hcq
                  have HI64 := Lib.hid (i64n_snoc t.2 l)
                  have hxl : (i64s (natsI t.2)).length ≤ 1000000 := by rw [i64n_len]; omega
                  cases hJ : J q l with
                  | false =>
                    rw [hJ] at cT2 HTS
                    have HTS2 : Hid (pRow J q (l + 1) s = t) := by show _ = _; rw [HTS.out]; simp
                    have HM := Lib.hid hM
                    clear hM hM2 HTS hJ cs1 fs1
                    go_wp2_with fail
                    go_roundw
                    case rel => exact ⟨l + 1, t, by omega, by go_num, HTS2.out, HM.out⟩
                    case measure => simp [intOf] <;> omega
                  | true =>
                    rw [hJ] at cT2 HTS
                    cases ht1 : t.1 l with
                    | true =>
                      rw [ht1] at cs1 HTS
                      have HTS2 : Hid (pRow J q (l + 1) s = t) := by show _ = _; rw [HTS.out]; simp
                      have HM := Lib.hid hM
                      clear hM hM2 HTS hJ ht1 fs1
                      go_wp2_with fail
                      go_roundw
                      case rel => exact ⟨l + 1, t, by omega, by go_num, HTS2.out, HM.out⟩
                      case measure => simp [intOf] <;> omega
                    | false =>
                      rw [ht1] at cs1 HTS
                      have HTS2 : Hid (pRow J q (l + 1) s = (upd t.1 l true, t.2 ++ [l])) := by show _ = _; rw [HTS.out]; simp
                      clear hM HTS hJ ht1
                      go_wp2_with (at_builtin; refine Mm.appendAt rfl (.tmp 70) (.tmp 72) 31 rfl hM2 0 rfl Try.underlying31 hk0 hx0 hx1 hx2 rfl rfl wr.heap.size (by simp) rfl rfl hxl (by omega) ?_)
                      intro g6 c6 w6 hM6
                      (try simp only [List.set_cons_zero] at hM6)
                      have HM6 : Hid (Mm w2.heap.size w2 w6 [(w2.heap.size, bvs P (upd t.1 l true), 4)] ((.slice (some ⟨g6, 0, none⟩) ((i64s (natsI t.2)).length + 1) c6, 2, i64s (natsI (t.2 ++ [l]))) :: ((u9, 31, rv) :: rowG rv (ptI ps)))) := by
                        show Mm _ _ _ _ _; rw [HI64.out]; exact hM6
                      clear hM2 hM6 cs1 fs1 cT2
                      go_wp2_with fail
                      go_roundw
                      case rel => exact ⟨l + 1, (upd t.1 l true, t.2 ++ [l]), by omega, by go_num, HTS2.out, HM6.out⟩
                      case measure => simp [intOf] <;> omega
                · obtain rfl : l = P := by omega
                  have l2 : ¬ ((l : Int) < (l : Int)) := by omega
                  have HSN2 : Hid (pQ J l (i + 1) s0 = t) := by show _ = _; rw [HSN.out, HT.out]
                  have HM := Lib.hid hM
                  have hile : i + 1 ≤ t.2.length := by rw [hR, List.length_append]; omega
                  clear hM hcq htin hR
                  go_wp2_with fail
                  go_roundw
                  case rel => exact ⟨i + 1, t, hile, by go_num, HSN2.out, HM.out⟩
                  case measure => simp [intOf] <;> omega
            · obtain rfl : i = s.2.length := by omega
              have i4 : ¬ ((s.2.length : Int) < (s.2.length : Int)) := by omega
              have HNW2 := Lib.hid (HNW.out s (by rw [← HS.out]; exact pQ_end HIN.out (by rw [HS.out]; exact Nat.le_refl _) hsl))
              have HSO := Lib.hid (sort_nat hin.nodup hin.lt)
              have HST := Lib.hid (hM.sorted 0 (n := s.2.length) rfl (by simp [natsI]) (by simp [natsI]; omega))
              clear hM hcq hin HS HNW
              go_wp2_with fail
              refine HST.out.mono ?_
              rintro e w4 ⟨rfl, hM4⟩
              rw [HSO.out] at hM4
              simp only [List.set_cons_zero] at hM4
              have hM5 : Mm w2.heap.size w2 w4 [(w2.heap.size, bvs P s.1, 4)] ((.slice (some ⟨gq, 0, none⟩) s.2.length cq, 2, i64s (natsI (srtQ P s.2))) :: ((u9, 31, rv) :: rowG rv (ptI ps))) := hM4
              have hrl : rv.length ≤ 1000000 := by rw [HLR.out, ptI_len]; omega
              clear hM4 HST
              go_wp2_with (at_builtin; refine Mm.appendAt rfl (.tmp 77) (.tmp 79) 40 rfl hM5 1 rfl Try.underlying40 hi hz0 hz1 hz2 rfl rfl w4.heap.size rfl rfl rfl hrl (by omega) ?_)
              intro g6 c6 w6 hM6
              (try simp only [List.set_cons_zero, List.set_cons_succ] at hM6)
              have hM7 := Mm.rowPutL hM6 HLR.out
              rw [← ptI_snoc] at hM7
              have HLR2 : Hid ((rv ++ [Value.slice (some ⟨gq, 0, none⟩) s.2.length cq]).length = (ptI (ps ++ [srtQ P s.2])).length) := by
                show _ = _; have h := HLR.out; rw [ptI_len] at h ⊢; simp only [List.length_append, List.length_cons, List.length_nil]; omega
              have HM7 := Lib.hid hM7
              clear hM5 hM6 hM7
              go_wp2_with fail
              go_roundw
              case rel => exact ⟨k + 1, _, _, _, by omega, by go_num, HNW2.out, HM7.out, HLR2⟩
              case measure => simp [intOf] <;> omega
      · obtain rfl : k = P := by omega
        have i2 : ¬ ((k : Int) < (k : Int)) := by omega
        have hO := Lib.hid ((OwnII.of (hM.sub (List.nil_sublist _)) HLR.out).less HBB.out.size)
        have HB := Lib.hid (HBB.out.trans (hM.below.mono HBB.out.size))
        have HPE : Hid ((pP J k k).2 = ps) := by show _ = _; rw [HP.out]
        clear hM
        go_wp2_with fail
        go_ret2
        rw [HL.out, HPE.out, HC.out]
        exact ⟨_, rfl, HB.out, hO.out⟩
  · have HL : Hid (tpL m n = []) := by show _ = _; rw [tpL, if_neg c0]
    have c1 : (levC m n != 0) = true := by simpa using c0
    clear c0
    generalize hc : levC m n = c at *
    clear hc
    go_wp2_with fail
    go_ret2
    rw [HL.out]
    exact ⟨_, rfl, hbb1, OwnII.nil _ _ hbb1.size⟩

set_option maxRecDepth 100000 in
set_option maxHeartbeats 1000000 in
theorem implIsOneTile_any (m : Mch) (hwf : m.Wf) (n : Int) (w : World) :
    Calls Try.prog 19 #[.agg m.cells.toArray, .int .i64 n] w (Ret2 (.bool (ioI m n).1) (.int .i64 (ioI m n).2) w) := by
  have hm := MAt.boxed w m 28
  have hb0 := boxedBelow w m.cells.toArray 28
  have HI : Hid (ioI m n = (decide ((tpL m n).length = 1), levC m n)) := rfl
  have HTP := Lib.hid (implTileParts_any m hwf n)
  go_enter Try.func19, Try.ntmps19
  go_wp2_with ((with_reducible refine ld_mach ?_ (.tmp 2) ?_ (w.heap.size) (0) ?_ m hm hwf ?_); exact rfl; exact rfl; exact rfl)
  refine (HTP.out _).mono ?_
  rintro e w1 ⟨v, rfl, hb1, hO⟩
  have HB := Lib.hid (hb0.trans (hb1.mono hb0.size))
  obtain ⟨a, c, rfl, -⟩ := hO.sl
  clear hO HTP hb1 hb0 hm
  generalize (tpL m n).length = z at *
  by_cases hz : z = 1
  · subst hz
    go_wp2_with fail
    go_ret2
    rw [HI.out]
    exact ⟨by simp, HB.out⟩
  · have k1 : ((z : Int) == 1) = false := by rw [beq_eq_false_iff_ne]; omega
    go_wp2_with fail
    go_ret2
    rw [HI.out]
    exact ⟨by simp [hz], HB.out⟩
end Go.Proofs.Ythgkkaifdlkciaa
