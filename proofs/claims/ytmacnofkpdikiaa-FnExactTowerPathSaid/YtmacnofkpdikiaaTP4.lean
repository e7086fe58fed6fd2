/- The reference's moves of a tower and its table of distances. -/
import Derived.Test.YtmacnofkpdikiaaTP3
import Derived.Test.YtmacnofkpdikiaaKR
import Derived.Test.YtmacnofkpdikiaaP2
import Derived.Test.YtmacnofkpdikiaaV4
namespace Go.Proofs.Ytmacnofkpdikiaa
open Go.RowKit
set_option linter.unusedVariables false
set_option linter.unusedSimpArgs false
set_option linter.unusedSectionVars false

theorem okW_short {n : Nat} {s : ByteArray} (h : okW n s) (hn : n ≤ 5) : Short s := by simp [Short, maxLen, h.2]; omega
set_option maxHeartbeats 1000000 in
theorem l08Moves_any (n : Nat) (hn : n ≤ 5) (s : ByteArray) (hs : okW n s) (w : World) :
    Calls Try.prog 64 #[.string s] w fun e w' => ∃ g, e = .returned (.slice (some ⟨g, 0, none⟩) 3 3) ∧ Below w.heap.size w w' ∧ w'.ownsRow w.heap.size 9 1 (.slice (some ⟨g, 0, none⟩) 3 3) 3 (stv [nbS 0 s, nbS 1 s, nbS 2 s]) := by
  have hsh := okW_short hs hn
  have H0 : Hid (∀ w, Calls Try.prog 54 #[.string s, .int .u8 48, .int .u8 49] w (Ret (.string (nbS 0 s)) w)) := fun w => l08Move_any s hsh 48 49 (by omega) (by omega) (by omega) w
  have H1 : Hid (∀ w, Calls Try.prog 54 #[.string s, .int .u8 48, .int .u8 50] w (Ret (.string (nbS 1 s)) w)) := fun w => l08Move_any s hsh 48 50 (by omega) (by omega) (by omega) w
  have H2 : Hid (∀ w, Calls Try.prog 54 #[.string s, .int .u8 49, .int .u8 50] w (Ret (.string (nbS 2 s)) w)) := fun w => l08Move_any s hsh 49 50 (by omega) (by omega) (by omega) w
  clear hsh hs
  go_enter Try.func64, Try.ntmps64
  go_wp2_with fail
  refine (H0.out _).mono ?_
  rintro e w1 ⟨rfl, hb1⟩
  go_wp2_with fail
  refine (H1.out _).mono ?_
  rintro e w2 ⟨rfl, hb2⟩
  have hbb2 := hb1.trans (hb2.mono hb1.size)
  go_wp2_with fail
  refine (H2.out _).mono ?_
  rintro e w3 ⟨rfl, hb3⟩
  have hbb3 := hbb2.trans (hb3.mono hbb2.size)
  go_wp2_with fail
  go_ret
  exact ⟨_, rfl, hbb3.alloc hbb3.size _, (OwnS.made w3 [nbS 0 s, nbS 1 s, nbS 2 s] (by simp)).less hbb3.size⟩

/-- the number of a word, asked of the reference -/
theorem numW_any (n : Nat) (hn : n ≤ 5) (s : ByteArray) (hs : okW n s) (w : World) : Calls Try.prog 62 #[.int .i64 3, .string s] w fun e w' => e = .returned (.int .i64 ((numW s : Nat) : Int)) ∧ w = w' :=
  l01NumberOf_any 3 (by omega) s (okW_lets hs) (by rw [hs.2]; omega) w

/-- the table while it is filled with -1 -/
def negT (N k : Nat) : List Int := List.replicate k (-1) ++ List.replicate (N - k) 0
theorem negT_succ {N k : Nat} (h : k < N) : (i64s (negT N k)).set k (.int .i64 (-1)) = i64s (negT N (k + 1)) := by
  apply List.ext_getElem
  · simp [negT, i64s]; omega
  · intro j h1 h2
    rw [List.getElem_set]
    simp only [negT, i64s, List.getElem_map, List.getElem_append, List.length_replicate, List.getElem_replicate]
    by_cases e : k = j
    · subst e; simp
    · rw [if_neg e]
      by_cases h3 : j < k
      · rw [dif_pos h3, dif_pos (by omega)]
      · rw [dif_neg h3, dif_neg (by omega)]
theorem negT_all (N : Nat) : negT N N = List.replicate N (-1) := by simp [negT]

theorem gTab_congr {α : Type} [DecidableEq α] {nb : Nat → α → α} {num : α → Nat} {N : Nat} {v : α} {c c' : Nat} (h : gF nb v c = gF nb v c') : gTab nb num N v c = gTab nb num N v c' := by simp only [gTab, h]
def qSt (v : ByteArray) (c : Nat) : List ByteArray := (gF nbS v c).map (gAt nbS v)
theorem qSt_len (v : ByteArray) (c : Nat) : (qSt v c).length = (gF nbS v c).length := by simp [qSt]
theorem qSt_get {v : ByteArray} {c i e : Nat} (h : (gF nbS v c)[i]? = some e) : (stv (qSt v c))[i]? = some (.string (gAt nbS v e)) := by simp [stv, qSt, h]
theorem qSt_succ (v : ByteArray) (c : Nat) : qSt v (c + 1) = qSt v c ++ if isF nbS v c = true then [gAt nbS v c] else [] := by
  rw [qSt, gF_succ, List.map_append]; congr 1; split <;> rfl
theorem stv_len (xs : List ByteArray) : (stv xs).length = xs.length := by simp [stv]
theorem OwnS.of_row {w : World} {B : Nat} {v : Value} {xs : List ByteArray} (h : w.ownsRow B 9 1 v (stv xs).length (stv xs)) : OwnS w B v xs := by rw [stv_len] at h; exact h
theorem stv_snoc (xs : List ByteArray) (x : ByteArray) : stv xs ++ [.string x] = stv (xs ++ [x]) := by simp [stv]
theorem gF_keep {α : Type} [DecidableEq α] {nb : Nat → α → α} {w : α} {c i e : Nat} (h : (gF nb w c)[i]? = some e) : (gF nb w (c + 1))[i]? = some e := by
  rw [gF_succ, List.getElem?_append_left (List.getElem?_eq_some_iff.1 h).1]; exact h

set_option maxRecDepth 100000 in
set_option maxHeartbeats 4000000 in
theorem l08Distances_any (n : Nat) (hn : n ≤ 5) (v : ByteArray) (hv : okW n v) (w : World) :
    Calls Try.prog 61 #[.string v] w fun e w' => ∃ g c, e = .returned (.slice (some ⟨g, 0, none⟩) (3 ^ n) (3 ^ n)) ∧ Below w.heap.size w w' ∧ (∀ x, isF nbS v x = true → x < c) ∧ Blk w' g (i64s (gTab nbS numW (3 ^ n) v c)) 2 := by
  obtain ⟨i0, hi, hz0, hz1, hz2⟩ := info_parts Try.info9
  have hN : 3 ^ n ≤ 243 := Nat.pow_le_pow_right (by omega) hn
  have HNL := Lib.hid (numW_lt (n := n))
  have HCOUNT := Lib.hid (gF_count (nb := nbS) (ok := okW n) nbS_ok numW_inj numW_lt hv)
  have HNUM := Lib.hid (numW_any n hn)
  have HMV := Lib.hid (l08Moves_any n hn)
  have HOK := Lib.hid (gAt_ok (nb := nbS) (ok := okW n) nbS_ok hv)
  have HHIT := Lib.hid (fun (c e : Nat) (he : e ∈ gF nbS v c) => gTab_hit (nb := nbS) (ok := okW n) nbS_ok numW_inj hv he (numW_lt _ (gAt_ok (nb := nbS) (ok := okW n) nbS_ok hv e)))
  have HMISS := Lib.hid (fun (c : Nat) (hn : ∀ e ∈ gF nbS v c, gAt nbS v e ≠ gAt nbS v c) => gTab_miss (nb := nbS) (ok := okW n) nbS_ok numW_inj hv (gAt_ok (nb := nbS) (ok := okW n) nbS_ok hv c) hn (numW_lt _ (gAt_ok (nb := nbS) (ok := okW n) nbS_ok hv c)))
  have HNEW := Lib.hid (fun (c : Nat) (h : isF nbS v c = true) => gTab_new (nb := nbS) (ok := okW n) nbS_ok numW_inj (N := 3 ^ n) hv h)
  have HV := Lib.hid hv
  have hsz := hv.2
  go_enter Try.func61, Try.ntmps61
  go_wp2_with fail
  refine (l01Power_any 3 n (by omega) (by omega) _).mono ?_
  rintro e w' ⟨rfl, rfl⟩
  obtain ⟨N, hNe⟩ : ∃ N, N = 3 ^ n := ⟨_, rfl⟩
  rw [← hNe] at hN HNL HCOUNT HHIT HMISS HNEW ⊢
  have hmk := mkI N (by omega) w
  have HNE := Lib.hid hNe
  clear hNe hv
  have hM0 : Mm w.heap.size w (w.alloc (.cells (madeCells #[.int .i64 0] N) 2)) [(w.heap.size, i64s (negT N 0), 2)] [] := by
    have := (Mm.start w).alloc (madeCells #[.int .i64 0] N) 2
    rwa [madeI, show List.replicate N (0 : Int) = negT N 0 by simp [negT]] at this
  go_wp2_with fail
  clear hmk
  go_loopw [4] (fun i wr => ∃ k : Nat, k ≤ N ∧ i = .int .i64 k ∧ Mm w.heap.size w wr [(w.heap.size, i64s (negT N k), 2)] []) (fun i _ => N - (intOf i).toNat)
  case atStart => exact ⟨0, Nat.zero_le _, rfl, hM0⟩
  case round =>
    clear hM0
    obtain ⟨k, hk, rfl, hM⟩ := hrel
    by_cases hlt : k < N
    · have i1 : (0 : Int) ≤ (k : Int) := by omega
      have i2 : (k : Int) < (N : Int) := by omega
      have hB := hM.at 0 rfl
      have hc := hB.cell' (i64s_get (xs := negT N k) (i := k) (by simp [negT]; omega))
      have hf := hB.free k
      obtain ⟨z, hz⟩ : ∃ z, (negT N k)[k]?.getD 0 = z := ⟨_, rfl⟩
      rw [hz] at hc
      have hM1 : Mm w.heap.size w (wr.setCell ⟨w.heap.size, k, none⟩ (.int .i64 (-1))) [(w.heap.size, i64s (negT N (k + 1)), 2)] [] := by
        have := hM.setCell 0 rfl k (.int .i64 (-1))
        rw [← negT_succ hlt]; exact this
      clear hz hM hB
      go_wp2_with fail
      go_roundw
      case rel => exact ⟨k + 1, by omega, by go_num, hM1⟩
      case measure => simp [intOf] <;> omega
    · have hk' : k = N := by omega
      subst hk'
      have i1 : ¬ (k : Int) < (k : Int) := by omega
      have hM1 := hM.alloc #[.string v] 9
      have hM2 : Mm w.heap.size w (wr.alloc (.cells #[.string v] 9)) [(w.heap.size, i64s (gTab nbS numW k v 0), 2)] [(.slice (some ⟨wr.heap.size, 0, none⟩) 1 1, 9, [.string v])] := by
        have h1 := hM1.addOwn (b := wr.heap.size) (cs := [.string v]) (T := 9) (by simp) 1 rfl (by omega)
        have h2 := hM.blk _ (List.mem_cons_self ..)
        have h3 : w.heap.size ≠ wr.heap.size := by have := h2.2.lt; simp at this; omega
        rw [gTab_zero, ← negT_all]
        simpa [h3] using h1
      go_wp2_with fail
      refine (HNUM.out v HV.out _).mono ?_
      rintro e w' ⟨rfl, rfl⟩
      have hnv := HNL.out v HV.out
      have hB := hM2.at 0 rfl
      have hc := hB.cell' (i64s_get (xs := gTab nbS numW k v 0) (i := numW v) (by rw [gTab_len]; exact hnv))
      have hf := hB.free (numW v)
      obtain ⟨z, hz⟩ : ∃ z, (gTab nbS numW k v 0)[numW v]?.getD 0 = z := ⟨_, rfl⟩
      rw [hz] at hc
      have hM3 : Mm w.heap.size w ((wr.alloc (.cells #[.string v] 9)).setCell ⟨w.heap.size, numW v, none⟩ (.int .i64 0)) [(w.heap.size, i64s (gTab nbS numW k v 1), 2)] [(.slice (some ⟨wr.heap.size, 0, none⟩) 1 1, 9, stv (qSt v 1))] := by
        have := hM2.setCell 0 rfl (numW v) (.int .i64 0)
        have e1 : gTab nbS numW k v 1 = (gTab nbS numW k v 0).set (numW v) 0 := by
          have := HNEW.out 0 (isF_zero v)
          rw [gAt_zero, gLen_zero] at this
          exact this
        have e2 : stv (qSt v 1) = [.string v] := by rw [qSt, gF_one]; simp [stv, gAt_zero]
        rw [e1, e2, show i64s ((gTab nbS numW k v 0).set (numW v) 0) = (i64s (gTab nbS numW k v 0)).set (numW v) (.int .i64 0) by simp [i64s, List.map_set]]
        exact this
      have j1 : (0 : Int) ≤ (numW v : Int) := by omega
      have j2 : (numW v : Int) < (k : Int) := by omega
      clear hz hM hB hM1 hM2
      go_wp2_with fail
      clear hc hf
      go_loopw [5, 6] (fun q i wr => ∃ (j c : Nat), j ≤ (gF nbS v c).length ∧ i = .int .i64 j ∧ Hid (j < (gF nbS v c).length → ∃ e, (gF nbS v c)[j]? = some e ∧ c = 3 * e + 1) ∧ Hid (j = (gF nbS v c).length → ∀ x, isF nbS v x = true → x < c) ∧ Mm w.heap.size w wr [(w.heap.size, i64s (gTab nbS numW k v c), 2)] [(q, 9, stv (qSt v c))]) (fun _ i _ => 1000 - (intOf i).toNat)
      case atStart => exact ⟨0, 1, by omega, rfl, fun _ => ⟨0, by rw [gF_one]; rfl, rfl⟩, fun h => by rw [gF_one] at h; simp at h, hM3⟩
      case round =>
        clear hM3
        obtain ⟨j, c, hj, rfl, HNX, HLA, hM⟩ := hrel
        have hcnt := HCOUNT.out c
        by_cases hlt : j < (gF nbS v c).length
        · obtain ⟨e, he, rfl⟩ := HNX.out hlt
          obtain ⟨g, cp, e1, -, -, hcl⟩ := own_form (hM.own _ (List.mem_cons_self ..)) (by simp only [stv_len, qSt_len]; omega)
          simp only [stv_len, qSt_len] at e1
          subst e1
          have f0 := hcl j _ (qSt_get he)
          have hX := HOK.out e
          have HE0 := Lib.hid he
          have HX := Lib.hid hX
          have HAT := Lib.hid (fun (t : Nat) (ht : t < 3) => gAt_code (nb := nbS) v e ht)
          obtain ⟨X, hXe⟩ : ∃ X, X = gAt nbS v e := ⟨_, rfl⟩
          rw [← hXe] at f0 HX HAT
          have HXE := Lib.hid hXe
          have i1 : (0 : Int) ≤ (j : Int) := by omega
          have i2 : (j : Int) < ((gF nbS v (3 * e + 1)).length : Int) := by omega
          clear hXe hX he hcl HNX HLA
          go_wp2_with fail
          refine (HMV.out X HX.out _).mono ?_
          rintro e1 w1 ⟨mg, rfl, hb1, hmo⟩
          have hM1 := hM.callOwn hb1 hmo rfl
          have HM1 := Lib.hid hM1
          clear hM f0 hmo hM1
          go_wp2_with fail
          go_loopw [5, 8] (fun q i wi => ∃ t : Nat, t ≤ 3 ∧ i = .int .i64 t ∧ Hid (Mm w.heap.size w wi [(w.heap.size, i64s (gTab nbS numW k v (3 * e + 1 + t)), 2)] [(.slice (some ⟨mg, 0, none⟩) 3 3, 9, stv [nbS 0 X, nbS 1 X, nbS 2 X]), (q, 9, stv (qSt v (3 * e + 1 + t)))]) ∧ Hid ((gF nbS v (3 * e + 1 + t))[j]? = some e)) (fun _ i _ => 3 - (intOf i).toNat)
          case atStart => exact ⟨0, by omega, rfl, HM1, HE0⟩
          case round =>
            clear HM1
            obtain ⟨t, ht, rfl, HM, HE⟩ := hrel
            by_cases htl : t < 3
            · have hM := HM.out
              have hcode := HAT.out t htl
              have hXt := HOK.out (3 * e + t + 1)
              rw [show 3 * e + t + 1 = 3 * e + 1 + t by omega] at hcode hXt
              obtain ⟨C, hC⟩ : ∃ C, C = 3 * e + 1 + t := ⟨_, rfl⟩
              have HC := Lib.hid hC
              rw [← hC] at hM hcode hXt HE
              obtain ⟨Y, hY⟩ : ∃ Y, Y = gAt nbS v C := ⟨_, rfl⟩
              have HYE := Lib.hid hY
              rw [← hY] at hcode hXt
              have HYX := Lib.hid hcode
              have f1 : wr.cell? ⟨mg, t, none⟩ = some (.string Y) := by
                have h := World.ownsRow.cellAt (hM.own _ (List.mem_cons_self ..)) t (by show t < 3; omega)
                rw [h, HYX.out]
                rcases (by omega : t = 0 ∨ t = 1 ∨ t = 2) with rfl | rfl | rfl <;> rfl
              have hny := HNL.out Y hXt
              have HYO := Lib.hid hXt
              have hB := hM.at 0 rfl
              have f2 := hB.cell' (i64s_get (xs := gTab nbS numW k v C) (i := numW Y) (by rw [gTab_len]; exact hny))
              have hf := hB.free (numW Y)
              have j0 : (0 : Int) ≤ (numW Y : Int) := by omega
              have j1 : (numW Y : Int) < (k : Int) := by omega
              have j2 : (0 : Int) ≤ (t : Int) := by omega
              have j3 : (t : Int) < 3 := by omega
              have HMM := Lib.hid hM
              clear hB hM hC hcode hXt hY HM
              cases hF : isF nbS v C
              · obtain ⟨e', he', hee⟩ := (gF_seen v C).2 hF
                have hh := HHIT.out C e' he'
                rw [hee, ← HYE.out] at hh
                rw [hh] at f2
                obtain ⟨l', hl'⟩ : ∃ l', l' = gLen e' := ⟨_, rfl⟩
                rw [← hl'] at f2
                have j4 : ¬ (l' : Int) < 0 := by omega
                have HS1 := Lib.hid (gTab_same (num := numW) (N := k) hF)
                have HS2 : Hid (qSt v (C + 1) = qSt v C) := by show _ = _; rw [qSt_succ, hF]; simp
                clear hh hl' he' hee hF
                go_wp2_with fail
                refine (HNUM.out Y HYO.out _).mono ?_
                rintro e1 w' ⟨rfl, rfl⟩
                go_wp2_with fail
                go_roundw
                case rel => exact ⟨t + 1, by omega, by go_num, by rw [show 3 * e + 1 + (t + 1) = C + 1 by rw [HC.out]; omega, HS1.out, HS2.out]; exact HMM, by rw [show 3 * e + 1 + (t + 1) = C + 1 by rw [HC.out]; omega]; exact gF_keep HE.out⟩
                case measure => simp [intOf] <;> omega
              · have hm := HMISS.out C (fun e' he' => isF_iff.1 hF e' (gF_mem.1 he').1)
                rw [← HYE.out] at hm
                rw [hm] at f2
                have hmE : e ∈ gF nbS v C := List.mem_of_getElem? HE.out
                have hh := HHIT.out C e hmE
                rw [← HXE.out] at hh
                have hle := gF_len HE.out
                have hcc := HCOUNT.out C
                have hjl := (List.getElem?_eq_some_iff.1 HE.out).1
                have hnx := HNL.out X HX.out
                have hB := HMM.out.at 0 rfl
                have f3 := hB.cell' (i64s_get (xs := gTab nbS numW k v C) (i := numW X) (by rw [gTab_len]; exact hnx))
                rw [hh] at f3
                have hlen : gLen C = gLen e + 1 := by
                  have := gLen_code e htl
                  rw [show 3 * e + t + 1 = C by rw [HC.out]; omega] at this
                  exact this
                obtain ⟨l', hl'⟩ : ∃ l', l' = gLen e := ⟨_, rfl⟩
                rw [← hl'] at f3 hlen hle
                have hs1 := HNEW.out C hF
                rw [← HYE.out, hlen, show ((l' + 1 : Nat) : Int) = (l' : Int) + 1 by omega] at hs1
                have HS1 := Lib.hid hs1
                clear hs1
                have HS2 : Hid (qSt v (C + 1) = qSt v C ++ [Y]) := by show _ = _; rw [qSt_succ, hF, HYE.out]; simp
                obtain ⟨gq, cq, e2, hq1, hq2, hcl2⟩ := own_form (HMM.out.own _ (List.mem_cons_of_mem _ (List.mem_cons_self ..))) (by simp only [stv_len, qSt_len]; omega)
                simp only [stv_len, qSt_len] at e2
                subst e2
                have f4 := hcl2 j _ (qSt_get HE.out)
                rw [← HXE.out] at f4
                have hM2 : Mm w.heap.size w (wr.setCell ⟨w.heap.size, numW Y, none⟩ (.int .i64 ((l' : Int) + 1))) [(w.heap.size, i64s (gTab nbS numW k v (C + 1)), 2)] [(.slice (some ⟨mg, 0, none⟩) 3 3, 9, stv [nbS 0 X, nbS 1 X, nbS 2 X]), (.slice (some ⟨gq, 0, none⟩) (gF nbS v C).length cq, 9, stv (qSt v C))] := by
                  have := HMM.out.setCell 0 rfl (numW Y) (.int .i64 ((l' : Int) + 1))
                  rw [HS1.out, show i64s ((gTab nbS numW k v C).set (numW Y) ((l' : Int) + 1)) = (i64s (gTab nbS numW k v C)).set (numW Y) (.int .i64 ((l' : Int) + 1)) by simp [i64s, List.map_set]]
                  exact this
                have f5 : (wr.setCell ⟨w.heap.size, numW Y, none⟩ (.int .i64 ((l' : Int) + 1))).cell? ⟨mg, t, none⟩ = some (.string Y) := by
                  have h := World.ownsRow.cellAt (hM2.own _ (List.mem_cons_self ..)) t (by show t < 3; omega)
                  rw [h, HYX.out]
                  rcases (by omega : t = 0 ∨ t = 1 ∨ t = 2) with rfl | rfl | rfl <;> rfl
                have i3 : (j : Int) < ((gF nbS v C).length : Int) := by omega
                have i4 : (0 : Int) ≤ (numW X : Int) := by omega
                have i5 : (numW X : Int) < (k : Int) := by omega
                have i6 : (l' : Int) ≤ 1000 := by omega
                have i7 : (0 : Int) ≤ (l' : Int) := by omega
                have HLC : Hid ((gF nbS v C).length ≤ 1000) := by show _ ≤ _; omega
                have HM2 := Lib.hid hM2
                clear hm hh hl' hmE hF hB hM2 hlen hcl2 hjl
                go_wp2_with fail
                refine (HNUM.out Y HYO.out _).mono ?_
                rintro e1 w' ⟨rfl, rfl⟩
                go_wp2_with fail
                refine (HNUM.out X HX.out _).mono ?_
                rintro e1 w' ⟨rfl, rfl⟩
                have hM2 := HM2.out
                have hszS : (wr.setCell ⟨w.heap.size, numW Y, none⟩ (.int .i64 ((l' : Int) + 1))).heap.size = wr.heap.size := by simp [World.setCell]
                go_wp2_with (at_builtin; refine Mm.appendAt rfl (.tmp 66) (.tmp 71) 25 rfl hM2 1 rfl Try.underlying25 hi hz0 hz1 hz2 rfl rfl wr.heap.size hszS rfl rfl (by rw [stv_len, qSt_len]; exact Nat.le_trans HLC.out (by omega)) (by omega) ?_)
                intro g' cap' w3 hM3
                have HM3 : Hid (Mm w.heap.size w w3 [(w.heap.size, i64s (gTab nbS numW k v (C + 1)), 2)] [(.slice (some ⟨mg, 0, none⟩) 3 3, 9, stv [nbS 0 X, nbS 1 X, nbS 2 X]), (.slice (some ⟨g', 0, none⟩) ((stv (qSt v C)).length + 1) cap', 9, stv (qSt v (C + 1)))]) := by
                  rw [HS2.out, ← stv_snoc]; exact hM3
                clear hM3 hM2 f5
                go_wp2_with fail
                go_roundw
                case rel => exact ⟨t + 1, by omega, by go_num, by rw [show 3 * e + 1 + (t + 1) = C + 1 by rw [HC.out]; omega]; exact HM3, by rw [show 3 * e + 1 + (t + 1) = C + 1 by rw [HC.out]; omega]; exact gF_keep HE.out⟩
                case measure => simp [intOf] <;> omega
            · have ht' : t = 3 := by omega
              subst ht'
              have hjl := (List.getElem?_eq_some_iff.1 HE.out).1
              have hcnt2 := HCOUNT.out (3 * e + 1 + 3)
              by_cases hl : j + 1 < (gF nbS v (3 * e + 4)).length
              · obtain ⟨e', he'⟩ : ∃ e', (gF nbS v (3 * e + 4))[j + 1]? = some e' := ⟨_, List.getElem?_eq_getElem hl⟩
                have hgf := gF_next HE.out he'
                have HR : Hid (∃ c, j + 1 ≤ (gF nbS v c).length ∧ Hid (j + 1 < (gF nbS v c).length → ∃ e, (gF nbS v c)[j + 1]? = some e ∧ c = 3 * e + 1) ∧ Hid (j + 1 = (gF nbS v c).length → ∀ x, isF nbS v x = true → x < c) ∧ gF nbS v c = gF nbS v (3 * e + 4)) :=
                  ⟨3 * e' + 1, by rw [hgf]; omega, fun _ => ⟨e', by rw [hgf]; exact he', rfl⟩, fun h => by rw [hgf] at h; omega, hgf⟩
                clear hgf he' hl
                go_wp2_with fail
                go_roundw
                case rel =>
                  obtain ⟨c, r1, r2, r3, r4⟩ := HR.out
                  refine ⟨j + 1, c, r1, by go_num, r2, r3, ?_⟩
                  rw [gTab_congr r4, show qSt v c = qSt v (3 * e + 4) by rw [qSt, r4]; rfl]
                  exact HM.out.subG (List.sublist_cons_self _ _)
                case measure => simp [intOf] <;> omega
              · have HR : Hid (∀ x, isF nbS v x = true → x < 3 * e + 4) := gF_last HE.out (by omega)
                have hl2 : (gF nbS v (3 * e + 4)).length = j + 1 := by
                  have : 3 * e + 1 + 3 = 3 * e + 4 := by omega
                  rw [this] at hjl; omega
                have HL2 := Lib.hid hl2
                clear hl hl2 hjl
                go_wp2_with fail
                go_roundw
                case rel => exact ⟨j + 1, 3 * e + 4, by rw [HL2.out]; omega, by go_num, fun h => by rw [HL2.out] at h; omega, fun _ => HR.out, HM.out.subG (List.sublist_cons_self _ _)⟩
                case measure => simp [intOf] <;> omega
        · obtain ⟨a, cp, e1, -⟩ := OwnS.form (OwnS.of_row (hM.own _ (List.mem_cons_self ..)))
          rw [qSt_len] at e1
          subst e1
          have hj' : j = (gF nbS v c).length := by omega
          have HR := Lib.hid (HLA.out hj')
          have HJ := Lib.hid hj'
          have i1 : ¬ (j : Int) < ((gF nbS v c).length : Int) := by omega
          clear hj' hlt
          go_wp2_with fail
          go_ret
          rw [← HNE.out]
          exact ⟨_, rfl, hM.below, c, HR.out, hM.at 0 rfl⟩
end Go.Proofs.Ytmacnofkpdikiaa
