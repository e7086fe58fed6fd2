/- TowerPath of the reference: greedily the least move that comes nearer. -/
import Derived.Test.YtmacnofkpdikiaaTP8
namespace Go.Proofs.Ytmacnofkpdikiaa
open Go.RowKit
set_option linter.unusedVariables false
set_option linter.unusedSimpArgs false
set_option linter.unusedSectionVars false

theorem gTxt_zero : gTxt 0 = ⟨#[]⟩ := by rw [gTxt, gStr_zero]; rfl
theorem gTxt_cat {k : Nat} (hk : k < 3) (x : Nat) : gTxt (gCat (k + 1) x) = strOfNums [98 + (k : Int)] ++ gTxt x := by
  rw [gTxt, gStr_cat, gStr_one hk, List.map_append, strOfNums_append]; rfl
theorem ba_assoc (a b c : ByteArray) : a ++ b ++ c = a ++ (b ++ c) := by
  have : (a ++ b ++ c).data.toList = (a ++ (b ++ c)).data.toList := by
    simp only [ByteArray.data_append, Array.toList_append, List.append_assoc]
  exact ByteArray.ext (Array.toList_inj.1 this)
theorem fstE_self {n : Nat} {v : ByteArray} (hv : okW n v) : fstE v v = 0 := by
  have := (fstE_fst hv hv).le (gAt_zero (nb := nbS) v)
  omega
/-- the step of the greedy walk -/
theorem fstE_step {n : Nat} {u v : ByteArray} (hu : okW n u) (hv : okW n v) (hne : u ≠ v) {k : Nat} (hk : k < 3) (hlt : gLen (fstE (nbS k u) v) < gLen (fstE u v))
    (hlow : ∀ k', k' < k → ¬ gLen (fstE (nbS k' u) v) < gLen (fstE u v)) : fstE u v = gCat (k + 1) (fstE (nbS k u) v) := by
  refine Fst.step (nb := nbS) (fstE_fst hu hv) hne hk (fstE_fst (nbS_ok k u hk hu) hv) hlt (fun k' hk' x hx => ?_)
  have h1 := hlow k' hk'
  have h2 := gLen_mono ((fstE_fst (nbS_ok k' u (by omega) hu) hv).le hx)
  omega
theorem fstE_near {n : Nat} {u v : ByteArray} (hu : okW n u) (hv : okW n v) (hne : u ≠ v) : ∃ k, k < 3 ∧ gLen (fstE (nbS k u) v) < gLen (fstE u v) := by
  obtain ⟨k, x, hk, he, hx⟩ := (fstE_fst hu hv).near hne
  refine ⟨k, hk, ?_⟩
  have h2 := gLen_mono ((fstE_fst (nbS_ok k u hk hu) hv).le hx)
  rw [he, gLen_cat, gLen_one hk]
  omega

theorem dist_le {n : Nat} (hn : n ≤ 5) {u v : ByteArray} (hu : okW n u) (hv : okW n v) : gLen (fstE u v) ≤ 243 := by
  have h1 := fstE_fst hu hv
  obtain ⟨i, hi⟩ := List.mem_iff_getElem?.1 (gF_mem.2 ⟨Nat.lt_succ_self _, h1.2⟩ : fstE u v ∈ gF nbS u (fstE u v + 1))
  have h2 := gF_len hi
  have h3 := (List.getElem?_eq_some_iff.1 hi).1
  have h4 := gF_count (nb := nbS) (ok := okW n) nbS_ok numW_inj numW_lt hu (fstE u v + 1)
  have h5 : 3 ^ n ≤ 243 := Nat.pow_le_pow_right (by omega) hn
  omega
theorem own_below {w w' : World} {B n : Nat} {v : Value} {xs : List ByteArray} (h : w.ownsRow B 9 1 v n (stv xs)) (hb : Below w.heap.size w w') : w'.ownsRow B 9 1 v n (stv xs) := by
  have hg : w.grownBy w' none := ⟨hb.os, hb.tape, hb.output, hb.size, fun k hk _ => hb.block k hk⟩
  exact World.ownsRow.kept h hg (by by_cases e : v.ownBlock = none <;> simp [e])
def strV : Value → ByteArray
  | .string s => s
  | _ => ByteArray.empty
theorem ba_nil (a : ByteArray) : a ++ (⟨#[]⟩ : ByteArray) = a := by
  have : (a ++ (⟨#[]⟩ : ByteArray)).data.toList = a.data.toList := by rw [ByteArray.data_append]; simp
  exact ByteArray.ext (Array.toList_inj.1 this)

theorem nil_ba (a : ByteArray) : (⟨#[]⟩ : ByteArray) ++ a = a := by
  have : ((⟨#[]⟩ : ByteArray) ++ a).data.toList = a.data.toList := by rw [ByteArray.data_append]; simp
  exact ByteArray.ext (Array.toList_inj.1 this)

set_option maxRecDepth 100000 in
set_option maxHeartbeats 800000 in
theorem specTowerPath_any (s v : ByteArray) (hs : Short s) (hv : Short v) (w : World) :
    Calls Try.prog 24 #[.string s, .string v] w (Ret2 (.string (tpS s v)) (.int .i64 (towC (two s v) 2)) w) := by
  have hcell := two_cell w s v 9
  have HT := Lib.hid (l08Tower_any w.heap.size 2 (two s v) (w.alloc (.cells #[.string s, .string v] 9)) (by omega) (by omega) (two_short hs hv) hcell)
  have hb0 : Below w.heap.size w (w.alloc (.cells #[.string s, .string v] 9)) := (Below.refl _ _).alloc (Nat.le_refl _) _
  clear hcell hs hv
  go_enter Try.func24, Try.ntmps24
  go_wp2_with fail
  refine HT.out.mono ?_
  rintro e w1 ⟨rfl, m, e1⟩
  have hb1 : Below w.heap.size w w1 := by rw [e1]; exact below_dN hb0 m
  clear e1 hb0 HT
  by_cases c0 : towC (two s v) 2 = 0
  · obtain ⟨h5, hos, hov⟩ := two_ok c0
    obtain ⟨n, hn⟩ : ∃ n, n = s.size := ⟨_, rfl⟩
    rw [← hn] at h5 hos hov
    have HD : Hid (tpS s v = gTxt (fstE s v)) := by show _ = _; rw [tpS, if_pos c0]
    have HC := Lib.hid c0
    have HNUM := Lib.hid (numW_any n h5)
    have HNL := Lib.hid (numW_lt (n := n))
    have HMV := Lib.hid (l08Moves_any n h5)
    have HOV := Lib.hid hov
    have HOS := Lib.hid hos
    have hN : 3 ^ n ≤ 243 := Nat.pow_le_pow_right (by omega) h5
    rw [c0]
    clear c0 hn hos
    go_wp2_with fail
    refine (l08Distances_any n h5 v hov _).mono ?_
    rintro e w2 ⟨g, c, rfl, hb2, hcl, hB⟩
    have HDC := Lib.hid (fun (u : ByteArray) (hu : okW n u) => dist_cell hu hov hcl)
    have hbb := hb1.trans (hb2.mono hb1.size)
    obtain ⟨P, hP⟩ : ∃ P, P = 3 ^ n := ⟨_, rfl⟩
    rw [← hP] at hN HNL HDC hB ⊢
    have HCELL : Hid (∀ u, okW n u → w2.cell? ⟨g, numW u, none⟩ = some (.int .i64 ((gLen (fstE u v) : Nat) : Int))) := fun u hu => by
      rw [hB.cell' (i64s_get (xs := gTab nbS numW P v c) (i := numW u) (by rw [gTab_len]; exact HNL.out u hu)), HDC.out u hu]
    have HG : Hid (g < w2.heap.size) := hB.lt
    clear hB hcl hP hov hb1
    go_wp2_with fail
    have HLE := Lib.hid (fun (u : ByteArray) (hu : okW n u) => dist_le h5 hu HOV.out)
    go_loopw [0, 8] (fun a b wr => ∃ (u r : ByteArray), a = .string u ∧ b = .string r ∧ Hid (okW n u) ∧ Hid (r ++ gTxt (fstE u v) = gTxt (fstE s v)) ∧ Below w.heap.size w wr ∧ Below w2.heap.size w2 wr) (fun a _ _ => gLen (fstE (strV a) v))
    case atStart => exact ⟨s, ⟨#[]⟩, rfl, rfl, HOS, nil_ba _, hbb, Below.refl _ _⟩
    case round =>
      clear hbb
      obtain ⟨u, r, rfl, rfl, HU, HR, hb, hb2⟩ := hrel
      by_cases huv : u = v
      · subst huv
        have HF : Hid (r = gTxt (fstE s u)) := by
          have h := HR.out
          rw [fstE_self HU.out, gTxt_zero, ba_nil] at h
          exact h
        go_wp2_with fail
        go_ret2
        rw [HC.out, HD.out, HF.out]
        exact ⟨rfl, hb⟩
      · have hne : (u.toList == v.toList) = false := by
          simp only [beq_eq_false_iff_ne, ne_eq]
          intro h
          exact huv (ba_inj h)
        have hne2 : (u.toList != v.toList) = true := by simp [bne, hne]
        have HNV := Lib.hid huv
        clear huv
        go_wp2_with fail
        refine (HMV.out u HU.out _).mono ?_
        rintro e w3 ⟨mg, rfl, hb3, hmo⟩
        have hbb3 := hb.trans (hb3.mono hb.size)
        have hb23 := hb2.trans (hb3.mono hb2.size)
        have HMO := Lib.hid hmo
        clear hne hne2 hmo hb hb2
        go_wp2_with fail
        go_loopw [0, 8, 10] (fun a b i wi => ∃ t : Nat, a = .string u ∧ b = .string r ∧ t ≤ 3 ∧ i = .int .i64 t ∧ Hid (∃ m, wi = w3.drewN m) ∧ Hid (∀ k', k' < t → ¬ gLen (fstE (nbS k' u) v) < gLen (fstE u v))) (fun _ _ i _ => 3 - (intOf i).toNat)
        case atStart => exact ⟨0, rfl, rfl, by omega, rfl, ⟨0, rfl⟩, fun k' h => by omega⟩
        case round =>
          obtain ⟨t, rfl, rfl, ht, rfl, HWI, HLOW⟩ := hrel
          by_cases htl : t < 3
          · have HY : Hid (okW n (nbS t u)) := nbS_ok t u htl HU.out
            have hbi : Below w3.heap.size w3 wr := by obtain ⟨m, hm⟩ := HWI.out; rw [hm]; exact ⟨rfl, rfl, rfl, Nat.le_refl _, fun _ _ => rfl⟩
            have f1 : wr.cell? ⟨mg, t, none⟩ = some (.string (nbS t u)) := by
              have h := World.ownsRow.cellAt (own_below HMO.out hbi) t (by omega)
              rw [h]
              rcases (by omega : t = 0 ∨ t = 1 ∨ t = 2) with rfl | rfl | rfl <;> rfl
            have g1 := (hb23.cell (p := ⟨g, numW (nbS t u), none⟩) HG.out).trans (HCELL.out _ HY.out)
            have g2 := (hb23.cell (p := ⟨g, numW u, none⟩) HG.out).trans (HCELL.out _ HU.out)
            have f2 := (hbi.cell (p := ⟨g, numW (nbS t u), none⟩) (Nat.lt_of_lt_of_le HG.out hb23.size)).trans g1
            have f3 := (hbi.cell (p := ⟨g, numW u, none⟩) (Nat.lt_of_lt_of_le HG.out hb23.size)).trans g2
            have HAB : Hid (∀ x, okW n x → ∀ m, Calls Try.prog 62 #[.int .i64 3, .string x] (wr.drewN m) (RetQ (.int .i64 (numW x : Int)) (wr.drewN m))) := fun x hx m => (HNUM.out _ hx _).mono (fun e w' h => ⟨h.1, 0, h.2.symm⟩)
            have HQY : Hid (∀ k, Calls Try.prog 62 #[.int .i64 3, .string (nbS t u)] (wr.drewN k) fun e w'' => e = .returned (.int .i64 (numW (nbS t u) : Int)) ∧ ∃ m, w'' = wr.drewN m) := fun k => (HNUM.out _ HY.out _).mono (fun e w' h => ⟨h.1, k, h.2.symm⟩)
            have HQU : Hid (∀ k, Calls Try.prog 62 #[.int .i64 3, .string u] (wr.drewN k) fun e w'' => e = .returned (.int .i64 (numW u : Int)) ∧ ∃ m, w'' = wr.drewN m) := fun k => (HNUM.out _ HU.out _).mono (fun e w' h => ⟨h.1, k, h.2.symm⟩)
            clear HAB
            have n1 := HNL.out _ HY.out
            have n2 := HNL.out _ HU.out
            have l1 := HLE.out _ HY.out
            have l2 := HLE.out _ HU.out
            have j0 : (0 : Int) ≤ (t : Int) := by omega
            have j1 : (t : Int) < 3 := by omega
            have j2 : (0 : Int) ≤ (numW (nbS t u) : Int) := by omega
            have j3 : (numW (nbS t u) : Int) < (P : Int) := by omega
            have j4 : (0 : Int) ≤ (numW u : Int) := by omega
            have j5 : (numW u : Int) < (P : Int) := by omega
            have hbe := hbb3.trans (hbi.mono hbb3.size)
            have hbe2 := hb23.trans (hbi.mono hb23.size)
            clear g1 g2
            by_cases hlt : gLen (fstE (nbS t u) v) < gLen (fstE u v)
            · have hst := fstE_step HU.out HOV.out HNV.out htl hlt HLOW.out
              have HST : Hid (r ++ strOfNums [98 + (t : Int)] ++ gTxt (fstE (nbS t u) v) = gTxt (fstE s v)) := by
                show _ = _
                rw [← HR.out, hst, gTxt_cat htl, ba_assoc]
              have hrs : r.size ≤ 243 := by
                have h1 := congrArg ByteArray.size HR.out
                rw [ByteArray.size_append, gTxt_size, gTxt_size] at h1
                have := HLE.out s HOS.out
                omega
              have HLT := Lib.hid hlt
              have hov1 : (strOfNums [98 + (t : Int)]).size = 1 := by rw [strOfNums_size]; rfl
              have hov2 : ¬ 9223372036854775807 < r.size + (strOfNums [98 + (t : Int)]).size := by rw [hov1]; omega
              have hov3 : ¬ 9223372036854775807 < r.size + 1 := by omega
              obtain ⟨D1, hD1⟩ : ∃ D, D = gLen (fstE (nbS t u) v) := ⟨_, rfl⟩
              obtain ⟨D2, hD2⟩ : ∃ D, D = gLen (fstE u v) := ⟨_, rfl⟩
              rw [← hD1] at f2 l1 hlt
              rw [← hD2] at f3 l2 hlt
              have i9 : (D1 : Int) < (D2 : Int) := by omega
              have hcv : ∀ m, (convert 82 9 (.slice (some ⟨wr.heap.size, 0, none⟩) 1 1)).run Try.prog ((wr.drewN m).alloc (.cells #[.int .u8 (98 + (t : Int))] 5)) = .ok (.string (strOfNums [98 + (t : Int)])) ((wr.drewN m).alloc (.cells #[.int .u8 (98 + (t : Int))] 5)) := fun m => by
                have hk := Blk.new (wr.drewN m) #[.int .u8 (98 + (t : Int))] 5
                exact run_convert_bytes_arg _ 82 5 Try.underlying82 Try.underlying5 _ 0 1 1 [98 + (t : Int)] rfl (fun i hi => by obtain rfl : i = 0 := (by simpa using hi); exact hk.cell' rfl) 9 Try.underlying9
              have hmgl : mg < wr.heap.size := World.block_lt_of_cell? wr ⟨mg, t, none⟩ f1
              have hf1 : ∀ m, ((wr.drewN m).alloc (.cells #[.int .u8 (98 + (t : Int))] 5)).cell? ⟨mg, t, none⟩ = some (.string (nbS t u)) := fun m =>
                (World.cell?_of_block (w := wr.drewN m) (a := ⟨mg, t, none⟩) (Below.heap_alloc _ _ _ hmgl)).trans f1
              clear hD1 hD2 hst
              generalize nbS t u = Y at *
              go_wp2_with fail
              go_quiet ((go_at_call 62; first | with_reducible exact HQY.out _ | with_reducible exact HQU.out _))
              go_wp2_with fail
              go_roundw
              case rel => exact ⟨Y, r ++ strOfNums [98 + (t : Int)], rfl, rfl, HY, HST, by first | exact (below_dN hbe _).alloc (by simpa using hbe.size) _ | exact hbe, by first | exact (below_dN hbe2 _).alloc (by simpa using hbe2.size) _ | exact hbe2⟩
              case measure => exact HLT.out
            · have HLT := Lib.hid hlt
              obtain ⟨D1, hD1⟩ : ∃ D, D = gLen (fstE (nbS t u) v) := ⟨_, rfl⟩
              obtain ⟨D2, hD2⟩ : ∃ D, D = gLen (fstE u v) := ⟨_, rfl⟩
              rw [← hD1] at f2 l1 hlt
              rw [← hD2] at f3 l2 hlt
              have i9 : ¬ (D1 : Int) < (D2 : Int) := by omega
              have HLOW2 : Hid (∀ k', k' < t + 1 → ¬ gLen (fstE (nbS k' u) v) < gLen (fstE u v)) := fun k' hk' => by
                by_cases e : k' = t
                · subst e; exact HLT.out
                · exact HLOW.out k' (by omega)
              clear hD1 hD2
              go_wp2_with fail
              go_quiet ((go_at_call 62; first | with_reducible exact HQY.out _ | with_reducible exact HQU.out _))
              go_wp2_with fail
              go_roundw
              case rel => exact ⟨t + 1, rfl, rfl, by omega, by go_num, by obtain ⟨m, hm⟩ := HWI.out; rw [hm]; exact dN2 _ _ _, HLOW2⟩
              case measure => simp [intOf] <;> omega
          · exfalso
            obtain ⟨k, hk, hlt⟩ := fstE_near HU.out HOV.out HNV.out
            exact HLOW.out k (by omega) hlt
  · have HD : Hid (tpS s v = ⟨#[]⟩) := by show _ = _; rw [tpS, if_neg c0]
    have hr := towC_range (two s v) 2
    have c1 : (towC (two s v) 2 != 0) = true := by simpa using c0
    generalize towC (two s v) 2 = T at *
    clear c0
    go_wp2_with fail
    go_ret2
    rw [HD.out]
    exact ⟨rfl, hb1⟩
end Go.Proofs.Ytmacnofkpdikiaa
