import Derived.Test.YthgkkaifdlkciaaYKind14
import Derived.Test.YthgkkaifdlkciaaYKind11
/- ActivityCounts of the reference: under way. -/
namespace Go.Proofs.Ythgkkaifdlkciaa
open Go.RowKit
set_option linter.unusedVariables false
set_option linter.unusedSimpArgs false

def z16 : List Value := [.int .i64 0, .int .i64 0, .int .i64 0, .int .i64 0, .int .i64 0, .int .i64 0, .int .i64 0, .int .i64 0, .int .i64 0, .int .i64 0, .int .i64 0, .int .i64 0, .int .i64 0, .int .i64 0, .int .i64 0, .int .i64 0]
theorem z16_nvs : z16 = nvs 16 fun _ => 0 := rfl
theorem OwnI.setsOther {w : World} {B c : Nat} {v : Value} {xs : List Int} (h : OwnI w B v xs) (hc : v.ownBlock ≠ some c) (vs : List Value) (o : Nat) : OwnI (w.setCells c o vs) B v xs := by
  refine ⟨h.1, ?_⟩
  rcases h.2 with hn | ⟨g, cap, cur, rfl, h1, h2, rest⟩
  · exact .inl hn
  · have hb : Blk w g cur.toList 2 := by show _ = _; simpa using h2
    have hb' := hb.setsOther (c := c) (fun e => hc (by simp [Value.ownBlock, e])) vs o
    exact .inr ⟨g, cap, cur, rfl, h1, by simpa [Blk] using hb', rest⟩

set_option maxRecDepth 100000 in
set_option maxHeartbeats 4000000 in
theorem specActivityCounts_any (m : Mch) (hwf : m.Wf) (q n : Int) (w : World) :
    Calls Try.prog 32 #[.agg m.cells.toArray, .int .i64 q, .int .i64 n] w (RetI (actsL m q n) (actsC m q n) w) := by
  obtain ⟨i0, hi, hz0, hz1, hz2⟩ := info_parts Try.info2
  have hm := MAt.boxed w m 28
  have hb0 := boxedBelow w m.cells.toArray 28
  have HR := Lib.hid (codeP_range m q ⟨#[]⟩)
  go_enter Try.func32, Try.ntmps32
  go_wp2_with ((with_reducible refine ld_mach ?_ (.tmp 3) ?_ (w.heap.size) (0) ?_ m hm hwf ?_); exact rfl; exact rfl; exact rfl)
  refine (l07State_any m hwf q _).mono ?_
  rintro e w1 ⟨rfl, hb1⟩
  have hm1 := hm.keep hb1 hwf
  have hbb1 := hb0.trans (hb1.mono hb0.size)
  by_cases c0 : codeP m q ⟨#[]⟩ = 0
  · by_cases c1 : inR n 0 20 = true
    · obtain ⟨hok, -, -, k, rfl, hk⟩ := code_zero c0
      obtain ⟨j, rfl, hj⟩ : ∃ j : Nat, n = j ∧ j ≤ 20 := ⟨n.toNat, by simp [inR] at c1; omega, by simp [inR] at c1; omega⟩
      have HA := Lib.hid (show actsC m k j = 0 by rw [actsC, if_pos c0, if_pos c1])
      have HL := Lib.hid (show actsL m k j = acts m k (j + 1) by rw [actsL, if_pos HA.out]; simp)
      rw [c0]
      clear c0
      go_wp2_with (first | (go_at_call 41; refine (l01In_any _ _ _ _).mono ?_; rintro e w' ⟨rfl, rfl⟩) | ((with_reducible refine ld_mach ?_ (.tmp 3) ?_ (w.heap.size) (0) ?_ m hm1 hwf ?_); exact rfl; exact rfl; exact rfl))
      refine (l01Trivial_any m hwf hok _).mono ?_
      rintro e w2 ⟨rfl, hb2⟩
      have hbb2 := hbb1.trans (hb2.mono hbb1.size)
      have hm2 := hm1.keep hb2 hwf
      have hA := ((Blk.new (w2.alloc (.cells #[] 2)) #[.bool false, .bool false, .bool false, .bool false, .bool false, .bool false, .bool false, .bool false, .bool false, .bool false, .bool false, .bool false, .bool false, .bool false, .bool false, .bool false] 61).alloc (.cells #[.int .i64 0, .int .i64 0, .int .i64 0, .int .i64 0, .int .i64 0, .int .i64 0, .int .i64 0, .int .i64 0, .int .i64 0, .int .i64 0, .int .i64 0, .int .i64 0, .int .i64 0, .int .i64 0, .int .i64 0, .int .i64 0] 78))
      have hZ := Blk.new ((w2.alloc (.cells #[] 2)).alloc (.cells #[.bool false, .bool false, .bool false, .bool false, .bool false, .bool false, .bool false, .bool false, .bool false, .bool false, .bool false, .bool false, .bool false, .bool false, .bool false, .bool false] 61)) #[.int .i64 0, .int .i64 0, .int .i64 0, .int .i64 0, .int .i64 0, .int .i64 0, .int .i64 0, .int .i64 0, .int .i64 0, .int .i64 0, .int .i64 0, .int .i64 0, .int .i64 0, .int .i64 0, .int .i64 0, .int .i64 0] 78
      rw [show (w2.alloc (.cells #[] 2)).heap.size = w2.heap.size + 1 by simp] at hA
      rw [show ((w2.alloc (.cells #[] 2)).alloc (.cells #[.bool false, .bool false, .bool false, .bool false, .bool false, .bool false, .bool false, .bool false, .bool false, .bool false, .bool false, .bool false, .bool false, .bool false, .bool false, .bool false] 61)).heap.size = w2.heap.size + 1 + 1 by simp] at hZ
      have hth1 := hA.there 0 (bls (trivB m)).length (by simp [bls])
      have hA2 := hA.setAll (vs := bls (trivB m)) (by simp [bls])
      have hZ2 := hZ.setsOther (c := w2.heap.size + 1) (by omega) (bls (trivB m)) 0
      have hth2 := hZ2.there 0 z16.length (by simp [z16])
      have hA3 := hA2.setsOther (c := w2.heap.size + 1 + 1) (by omega) z16 0
      have hZ3 := hZ2.setAll (vs := z16) (by simp [z16])
      have hi1 : Hid ((Try.prog.info? 61).map (·.size) = some (bls (trivB m)).length) := by show _ = _; rw [show (bls (trivB m)).length = 16 by simp [bls]]; kernel_rfl
      have hi2 : Hid ((Try.prog.info? 78).map (·.size) = some z16.length) := by show _ = _; rw [show z16.length = 16 by rfl]; kernel_rfl
      have H1 : Hid (∀ v ∈ bls (trivB m), v.oneCell' = true) := fun v hv => by simp only [bls, List.mem_map] at hv; obtain ⟨z, _, rfl⟩ := hv; rfl
      have H2 : Hid (∀ v ∈ z16, v.oneCell' = true) := fun v hv => by rw [z16_nvs] at hv; simp only [nvs, List.mem_map] at hv; obtain ⟨z, _, rfl⟩ := hv; rfl
      have hs16 := hok.s_le
      have hck := hZ3.cell' (i := k) (v := .int .i64 ((0 : Nat) : Int)) (by rw [z16_nvs]; exact nvs_get _ (by omega))
      have hfk := hZ3.free k
      have i1 : (0 : Int) ≤ (k : Int) := by omega
      have i2 : (k : Int) < 16 := by omega
      have hE := ((Blk.new w2 #[] 2).alloc (.cells #[.bool false, .bool false, .bool false, .bool false, .bool false, .bool false, .bool false, .bool false, .bool false, .bool false, .bool false, .bool false, .bool false, .bool false, .bool false, .bool false] 61)).alloc (.cells #[.int .i64 0, .int .i64 0, .int .i64 0, .int .i64 0, .int .i64 0, .int .i64 0, .int .i64 0, .int .i64 0, .int .i64 0, .int .i64 0, .int .i64 0, .int .i64 0, .int .i64 0, .int .i64 0, .int .i64 0, .int .i64 0] 78)
      have hE2 := ((hE.setsOther (c := w2.heap.size + 1) (by omega) (bls (trivB m)) 0).setsOther (c := w2.heap.size + 1 + 1) (by omega) z16 0).setOther (a := ⟨w2.heap.size + 1 + 1, k, none⟩) (by simp only; omega) (.int .i64 ((1 : Nat) : Int))
      have hA4 := hA3.setOther (a := ⟨w2.heap.size + 1 + 1, k, none⟩) (by simp only; omega) (.int .i64 ((1 : Nat) : Int))
      have hZ4 := hZ3.setCell k (.int .i64 ((1 : Nat) : Int))
      rw [z16_nvs, nvs_set _ _ (by omega), ← z16_nvs, show updN (fun _ => 0) k 1 = nowS m (ntB m) k 0 from funext fun r => by simp [nowS, updN]] at hZ4
      have hbl := (below_setCells (b := w2.heap.size + 1 + 1) (by omega) z16 (below_setCells (b := w2.heap.size + 1) (by omega) (bls (trivB m)) ((((Below.refl w2.heap.size w2).alloc (Nat.le_refl _) (.cells #[] 2)).alloc (by simp) (.cells #[.bool false, .bool false, .bool false, .bool false, .bool false, .bool false, .bool false, .bool false, .bool false, .bool false, .bool false, .bool false, .bool false, .bool false, .bool false, .bool false] 61)).alloc (by simp; omega) (.cells #[.int .i64 0, .int .i64 0, .int .i64 0, .int .i64 0, .int .i64 0, .int .i64 0, .int .i64 0, .int .i64 0, .int .i64 0, .int .i64 0, .int .i64 0, .int .i64 0, .int .i64 0, .int .i64 0, .int .i64 0, .int .i64 0] 78)) 0) 0).setCell (p := ⟨w2.heap.size + 1 + 1, k, none⟩) (by simp only; omega) (.int .i64 ((1 : Nat) : Int))
      clear hA hZ hA2 hZ2 hE
      go_wp2_with (first | ((with_reducible refine st_row ?_ 61 (.tmp 9) (.tmp 32) ?_ (w2.heap.size + 1) 0 (bls (trivB m)) ?_ ?_ hth1 hi1.out H1.out ?_); exact rfl; exact rfl; exact rfl; exact rfl) | ((with_reducible refine st_row ?_ 78 (.tmp 10) (.tmp 33) ?_ (w2.heap.size + 1 + 1) 0 z16 ?_ ?_ hth2 hi2.out H2.out ?_); exact rfl; exact rfl; exact rfl; exact rfl))
      clear hth1 hth2 hA3 hZ3 hck hfk hm1
      go_loopw [11, 12] (fun v11 i wr => ∃ t : Nat, t ≤ j + 1 ∧ i = .int .i64 t ∧ Blk wr (w2.heap.size + 1 + 1) (nvs 16 (nowS m (ntB m) k t)) 78 ∧ Blk wr (w2.heap.size + 1) (bls (trivB m)) 61 ∧ OwnI wr w2.heap.size v11 (acts m k t) ∧ v11.ownBlock ≠ some (w2.heap.size + 1) ∧ v11.ownBlock ≠ some (w2.heap.size + 1 + 1) ∧ Below w2.heap.size w2 wr) (fun _ i _ => j + 1 - (intOf i).toNat)
      case atStart => exact ⟨0, Nat.zero_le _, rfl, hZ4, hA4, ⟨rfl, .inr ⟨_, 0, #[], rfl, Nat.le_refl _, hE2, Nat.le_refl _, Nat.zero_le _, rfl, rfl⟩⟩, by simp [Value.ownBlock], by simp [Value.ownBlock]; omega, hbl⟩
      case round =>
        clear hZ4 hA4 hE2 hbl
        obtain ⟨t, ht, rfl, hN, hB, hO, hn1, hn2, hb⟩ := hrel
        by_cases hlt : t ≤ j
        · obtain ⟨wo, rfl⟩ : ∃ wo : World, wo = wr := ⟨_, rfl⟩
          have hX := Blk.new wo #[.int .i64 0, .int .i64 0, .int .i64 0, .int .i64 0, .int .i64 0, .int .i64 0, .int .i64 0, .int .i64 0, .int .i64 0, .int .i64 0, .int .i64 0, .int .i64 0, .int .i64 0, .int .i64 0, .int .i64 0, .int .i64 0] 78
          rw [show (#[.int .i64 0, .int .i64 0, .int .i64 0, .int .i64 0, .int .i64 0, .int .i64 0, .int .i64 0, .int .i64 0, .int .i64 0, .int .i64 0, .int .i64 0, .int .i64 0, .int .i64 0, .int .i64 0, .int .i64 0, .int .i64 0] : Array Value).toList = nvs 16 fun _ => 0 from rfl] at hX
          have hbx : Below wo.heap.size wo (wo.alloc (.cells #[.int .i64 0, .int .i64 0, .int .i64 0, .int .i64 0, .int .i64 0, .int .i64 0, .int .i64 0, .int .i64 0, .int .i64 0, .int .i64 0, .int .i64 0, .int .i64 0, .int .i64 0, .int .i64 0, .int .i64 0, .int .i64 0] 78)) := (Below.refl _ wo).alloc (Nat.le_refl _) _
          obtain ⟨wx, hwx⟩ : ∃ wx, wx = wo.alloc (.cells #[.int .i64 0, .int .i64 0, .int .i64 0, .int .i64 0, .int .i64 0, .int .i64 0, .int .i64 0, .int .i64 0, .int .i64 0, .int .i64 0, .int .i64 0, .int .i64 0, .int .i64 0, .int .i64 0, .int .i64 0, .int .i64 0] 78) := ⟨_, rfl⟩
          rw [← hwx] at hX hbx
          go_wp2_with fail
          rw [← hwx]
          clear hwx
          have hs16' := hs16
          have hl3 := hok.l_le
          have HT0 := tot_nowS hok hwf (ntB m) hk t
          have HP := pow3 (k := t) (by omega)
          have HNOW' : Hid (∀ r, r < m.s → nowS m (ntB m) k t r ≤ 10460353203) := fun r hr => Nat.le_trans (le_tot _ _ _ hr) (by omega)
          have HNX' : Hid (∀ r, r < m.s → ∀ x, x ≤ m.l → ∀ z, z < m.s → nxX m (nowS m (ntB m) k t) r x (nxRow m (ntB m) (nowS m (ntB m) k t) r) z ≤ 70000000000) := fun r hr x hx z hz => by
            have h1 := le_tot (nxX m (nowS m (ntB m) k t) r x (nxRow m (ntB m) (nowS m (ntB m) k t) r)) m.s z hz
            rw [tot_nxX hok hwf _ _ hr x hx] at h1
            have h2 := tot_nxRow hok hwf (ntB m) (nowS m (ntB m) k t) r (by omega)
            have h3 := tot_mono (nowS m (ntB m) k t) r (m.s - r)
            rw [show r + (m.s - r) = m.s by omega] at h3
            have h4 : m.l * tot (nowS m (ntB m) k t) r ≤ 3 * 10460353203 := Nat.mul_le_mul hl3 (by omega)
            have h5 : nowS m (ntB m) k t r * x ≤ 10460353203 * 3 := Nat.mul_le_mul (HNOW'.out r hr) (by omega)
            omega
          have HSUM' : Hid (∀ r, r ≤ m.s → sumR m (nowS m (ntB m) k t) r ≤ 10460353203) := fun r hr => by
            have h1 := sumR_le m (nowS m (ntB m) k t) r
            have h3 := tot_mono (nowS m (ntB m) k t) r (m.s - r)
            rw [show r + (m.s - r) = m.s by omega] at h3
            omega
          clear HT0 HP
          generalize hnow : nowS m (ntB m) k t = now at *
          go_loopw [13, 15] (fun v13 v15 wi => ∃ r : Nat, r ≤ m.s ∧ v15 = .int .i64 r ∧ v13 = .int .i64 (sumR m now r : Int) ∧ Blk wi wo.heap.size (nvs 16 (nxRow m (ntB m) now r)) 78 ∧ Below wo.heap.size wo wi) (fun _ i _ => m.s - (intOf i).toNat)
          case atStart => exact ⟨0, Nat.zero_le _, rfl, rfl, hX, hbx⟩
          case round =>
            clear hX hbx
            obtain ⟨r, hr, rfl, rfl, hX, hbi⟩ := hrel
            have hmi := (hm2.below (hb.trans (hbi.mono hb.size)) (World.block_lt_of_cell? w2 ⟨w.heap.size, 0, none⟩ hm2.l))
            have hcs : wr.cell? ⟨w.heap.size, 1, none⟩ = some (.int .i64 (m.s : Int)) := by rw [← hok.S_eq]; exact hmi.s
            by_cases hrlt : r < m.s
            · have e3 := (hN.keep hbi).cell' (nvs_get now (q := r) (by omega))
              have e4 := (hB.keep hbi).cell' (bls_get (trivB m) (q := r) (by omega))
              have j1 : (0 : Int) ≤ (r : Int) := by omega
              have j2 : (r : Int) < 16 := by omega
              have HM : (now r : Int) ≤ 10460353203 := by have := HNOW'.out r hrlt; omega
              have HS : (sumR m now r : Int) ≤ 10460353203 := by have := HSUM'.out r hr; omega
              have HSS : Hid (sumR m now (r + 1) = sumR m now r + if trivB m r then 0 else now r) := rfl
              obtain ⟨M, hM⟩ : ∃ M, M = now r := ⟨_, rfl⟩
              obtain ⟨SU, hSU⟩ : ∃ SU, SU = sumR m now r := ⟨_, rfl⟩
              rw [← hM] at e3 HM HSS
              rw [← hSU] at HS HSS
              rw [← hSU]
              have HMM := Lib.hid hM
              clear hM hSU
              cases htr : trivB m r
              · rw [htr] at e4 HSS
                have HNR : Hid (nxX m now r m.l (nxRow m (ntB m) now r) = nxRow m (ntB m) now (r + 1)) := by show _ = _; simp [nxRow, ntB, htr]
                clear htr
                go_wp2_with fail
                obtain ⟨wb, rfl⟩ : ∃ wb : World, wb = wr := ⟨_, rfl⟩
                go_loopw [16] (fun i wi => ∃ x : Nat, x ≤ m.l ∧ i = .int .i64 x ∧ Blk wi wo.heap.size (nvs 16 (nxX m now r x (nxRow m (ntB m) now r))) 78 ∧ Below wo.heap.size wo wi) (fun i _ => m.l - (intOf i).toNat)
                case atStart => exact ⟨0, Nat.zero_le _, rfl, hX, hbi⟩
                case round =>
                  clear hX hbi e3 e4 hmi hcs
                  obtain ⟨x, hx, rfl, hX, hbi⟩ := hrel
                  have hmi := (hm2.below (hb.trans (hbi.mono hb.size)) (World.block_lt_of_cell? w2 ⟨w.heap.size, 0, none⟩ hm2.l))
                  have hcl : wr.cell? ⟨w.heap.size, 0, none⟩ = some (.int .i64 (m.l : Int)) := by rw [← hok.L_eq]; exact hmi.l
                  by_cases hxlt : x < m.l
                  · have e2 := hmi.nn hwf (q := r) (x := x) (by omega) (by omega)
                    rw [hok.n_eq hwf hrlt hxlt] at e2
                    have hnn := hok.nn_lt hwf hrlt hxlt
                    have e3 := (hN.keep hbi).cell' (nvs_get now (q := r) (by omega))
                    rw [← HMM.out] at e3
                    have c1 := hX.cell' (nvs_get (nxX m now r x (nxRow m (ntB m) now r)) (q := m.nn r x) (by omega))
                    have f1 := hX.free (m.nn r x)
                    have HB := HNX'.out r hrlt x hx (m.nn r x) hnn
                    have hset := (hX.drewN 1).setCell (m.nn r x) (.int .i64 ((nxX m now r x (nxRow m (ntB m) now r) (m.nn r x) + now r : Nat) : Int))
                    rw [nvs_set _ _ (by omega)] at hset
                    have HSET : Hid (Blk (wr.drew.setCell ⟨wo.heap.size, m.nn r x, none⟩ (.int .i64 ((nxX m now r x (nxRow m (ntB m) now r) (m.nn r x) : Int) + (now r : Int)))) wo.heap.size (nvs 16 (nxX m now r (x + 1) (nxRow m (ntB m) now r))) 78) := by
                      rw [Int.natCast_add] at hset; exact hset
                    have hbs := (below_dN hbi 1).setCell (p := ⟨wo.heap.size, m.nn r x, none⟩) (Nat.le_refl _) (.int .i64 ((nxX m now r x (nxRow m (ntB m) now r) (m.nn r x) : Int) + (now r : Int)))
                    clear hset
                    rw [← HMM.out] at HSET hbs
                    obtain ⟨F, hF⟩ : ∃ F, F = nxX m now r x (nxRow m (ntB m) now r) (m.nn r x) := ⟨_, rfl⟩
                    rw [← hF] at c1 HB HSET hbs
                    clear hF
                    have i3 : (0 : Int) ≤ (x : Int) := by omega
                    have i4 : (x : Int) < 3 := by omega
                    have i5 : (F : Int) ≤ 70000000000 := by omega
                    generalize m.nn r x = z at *
                    have i6 : (0 : Int) ≤ (z : Int) := by omega
                    have i7 : (z : Int) < 16 := by omega
                    clear HB hmi hX hbi hN
                    go_wp2_with fail
                    go_still_tail 9, (by kernel_rfl)
                    change wpList _ _ _ _ _ wr.drew
                    have hck2 : wr.drew.cell? ⟨wo.heap.size, z, none⟩ = _ := c1
                    have hfk2 : wr.drew.frozen? ⟨wo.heap.size, z, none⟩ = false := f1
                    have hbs' : Below wo.heap.size wo (wr.drew.setCell ⟨wo.heap.size, z, none⟩ (.int .i64 ((F : Int) + (M : Int)))) := hbs
                    clear c1 f1 e2 e3 hcl hbs
                    generalize wr.drew = wd at *
                    go_wp2_with fail
                    go_roundw
                    case rel => exact ⟨x + 1, by omega, by go_num, HSET.out, hbs'⟩
                    case measure => simp [intOf]; omega
                  · have hx' : x = m.l := by omega
                    subst hx'
                    rw [HNR.out] at hX
                    clear hmi
                    go_wp2_with fail
                    go_roundw
                    case rel => exact ⟨r + 1, by omega, by go_num, by rw [HSS.out]; simp, hX, hbi⟩
                    case measure => simp [intOf]; omega
              · rw [htr] at e4 HSS
                have HNR : Hid (nxRow m (ntB m) now r = nxRow m (ntB m) now (r + 1)) := by show _ = _; simp [nxRow, ntB, htr]
                clear htr
                rw [HNR.out] at hX
                clear hmi
                go_wp2_with fail
                go_roundw
                case rel => exact ⟨r + 1, by omega, by go_num, by rw [HSS.out]; simp, hX, hbi⟩
                case measure => simp [intOf]; omega
            · have hr' : r = m.s := by omega
              subst hr'
              have hOr := hO.below hbi
              have hbX := hb.trans (hbi.mono hb.size)
              have HLEN := acts_length m k t
              have HS : (sumR m now m.s : Int) ≤ 10460353203 := by have := HSUM'.out m.s (Nat.le_refl _); omega
              have HAC : Hid (i64s (acts m k (t + 1)) = i64s (acts m k t) ++ [.int .i64 (sumR m now m.s : Int)]) := by
                show _ = _
                rw [acts_succ, ← hnow, sumR_eq (fun z hz hnt => nowS_eq hok hwf k t z hz hnt) m.s (Nat.le_refl _)]
              have HNX2 : Hid (Blk wr wo.heap.size (nvs 16 (nowS m (ntB m) k (t + 1))) 78) := by
                show Blk _ _ _ _
                rw [nowS, hnow]; exact hX
              have hXlt := hX.lt
              have hOlt : ∀ g, u11.ownBlock = some g → g < wo.heap.size := fun g hg => (World.ownsRow.lt hO g hg).2
              have HOLT := Lib.hid hOlt
              have hNr := Lib.hid (hN.keep hbi)
              have hBr := Lib.hid (hB.keep hbi)
              have HN1 := Lib.hid hn1
              have HN2 := Lib.hid hn2
              have hB2 := hb.size
              have hlo := hN.lt
              clear hX hOlt hN hB hn1 hn2 hmi
              obtain ⟨SU, hSU⟩ : ∃ SU, SU = sumR m now m.s := ⟨_, rfl⟩
              rw [← hSU] at HS HAC
              rw [← hSU]
              clear hSU
              go_wp2_with (at_builtin; refine wpList_append_lies _ rfl (.tmp 78) (.tmp 80) 31 rfl w2.heap.size 2 i0 (.int .i64 0) 1 8 Try.underlying31 hi hz0 hz1 hz2 rfl (by decide) _ _ _ rfl (World.ownsRow.alloc hOr _) ⟨_, 0, none⟩ 1 1 [.int .i64 (SU : Int)] rfl rfl (one_news _ _ _) (by simp [Value.oneCell']) (by omega) ?c3 ?c4 ?c5 _ rfl ?_)
              case c3 => simp [maxLen]; omega
              case c4 => omega
              case c5 => have := hbX.size; simp; omega
              intro g cap w5 hown hgrow hlies hlt5
              obtain ⟨hb5, hsz5, -⟩ := grown_below hbX hOr (Nat.le_refl _) hbX.size hgrow
              have hXk : Blk w5 wo.heap.size (nvs 16 (nowS m (ntB m) k (t + 1))) 78 :=
                (hgrow.block wo.heap.size (by simp; omega) (fun e => by have := HOLT.out _ e.symm; omega)).trans (HNX2.out.alloc _)
              have hNk : Blk w5 (w2.heap.size + 1 + 1) (nvs 16 now) 78 :=
                (hgrow.block (w2.heap.size + 1 + 1) (by simp; omega) (fun e => HN2.out e.symm)).trans (hNr.out.alloc _)
              have hBk : Blk w5 (w2.heap.size + 1) (bls (trivB m)) 61 :=
                (hgrow.block (w2.heap.size + 1) (by simp; omega) (fun e => HN1.out e.symm)).trans (hBr.out.alloc _)
              have hne : ∀ c, u11.ownBlock ≠ some c → c < wr.heap.size → (Value.slice (some ⟨g, 0, none⟩) (t + 1) cap).ownBlock ≠ some c := fun c hc hcl e => by
                simp only [Value.ownBlock] at e
                rcases hlies with h | h
                · exact hc (h.trans e)
                · simp at h e; omega
              have HNE1 := Lib.hid (hne _ HN1.out (by omega))
              have HNE2 := Lib.hid (hne _ HN2.out (by omega))
              have hO1 : OwnI w5 w2.heap.size (.slice (some ⟨g, 0, none⟩) (t + 1) cap) (acts m k (t + 1)) := by
                show World.ownsRow _ _ _ _ _ _ _
                rw [HAC.out, acts_length]
                exact hown
              have hO2 := Lib.hid (hO1.setsOther HNE2.out (nvs 16 (nowS m (ntB m) k (t + 1))) 0)
              have hNN := Lib.hid (hNk.setAll (vs := nvs 16 (nowS m (ntB m) k (t + 1))) (by simp [nvs]))
              have hBB := Lib.hid (hBk.setsOther (c := w2.heap.size + 1 + 1) (by omega) (nvs 16 (nowS m (ntB m) k (t + 1))) 0)
              have hbbb := Lib.hid (below_setCells (b := w2.heap.size + 1 + 1) (by omega) (nvs 16 (nowS m (ntB m) k (t + 1))) hb5 0)
              have hall := hXk.all
              have hth := hNk.there 0 (nvs 16 (nowS m (ntB m) k (t + 1))).length (by simp [nvs])
              have HIA : Hid ((Try.prog.info? 78).map (·.size) = some (nvs 16 (nowS m (ntB m) k (t + 1))).length) := by show _ = _; rw [show (nvs 16 (nowS m (ntB m) k (t + 1))).length = 16 by simp [nvs]]; kernel_rfl
              have H1A : Hid (∀ v ∈ nvs 16 (nowS m (ntB m) k (t + 1)), v.oneCell' = true) := fun v hv => by simp only [nvs, List.mem_map] at hv; obtain ⟨z, _, rfl⟩ := hv; rfl
              generalize hcs : nvs 16 (nowS m (ntB m) k (t + 1)) = cs at *
              have HCS := Lib.hid hcs
              clear hcs
              clear hown hgrow hlies hlt5 hOr hO hbX HNX2 hne hO1 hNk hBk hXk hb5 hsz5
              go_wp2_with (first | ((with_reducible refine ld_row ?_ 78 (.tmp 14) ?_ wo.heap.size 0 ?_ cs (.array 16 2) hall Try.underlying78 ?_ HIA.out ?_); exact rfl; exact rfl; exact rfl; exact rfl) | ((with_reducible refine st_row ?_ 78 (.tmp 10) (.tmp 82) ?_ (w2.heap.size + 1 + 1) 0 cs ?_ ?_ hth HIA.out H1A.out ?_); exact rfl; exact rfl; exact rfl; exact rfl))
              go_roundw
              case rel => exact ⟨t + 1, by omega, by go_num, by rw [HCS.out]; exact hNN.out, hBB.out, hO2.out, HNE1.out, HNE2.out, hbbb.out⟩
              case measure => simp [intOf]; omega
        · have ht' : t = j + 1 := by omega
          subst ht'
          have hend := hbb2.trans (hb.mono hbb2.size)
          have hO2 := Lib.hid (hO.less (C := w.heap.size) hbb2.size)
          clear hO
          go_wp2_with fail
          go_ret2
          rw [HL.out, HA.out]
          exact ⟨_, rfl, hend, hO2.out⟩
    · have c1' : inR n 0 20 = false := by simpa using c1
      have HA := Lib.hid (show actsC m q n = 2 by rw [actsC, if_pos c0, if_neg c1])
      have HL := Lib.hid (show actsL m q n = [] by rw [actsL, if_neg (by rw [HA.out]; decide)])
      rw [c0]
      clear c0 c1
      go_wp2_with (go_at_call 41; refine (l01In_any _ _ _ _).mono ?_; rintro e w' ⟨rfl, rfl⟩)
      go_ret2
      rw [HL.out, HA.out]
      exact ⟨_, rfl, hbb1, OwnI.nil _ _⟩
  · have HA := Lib.hid (show actsC m q n = codeP m q ⟨#[]⟩ by rw [actsC, if_neg c0])
    have HL := Lib.hid (show actsL m q n = [] by rw [actsL, if_neg (by rw [HA.out]; exact c0)])
    have c1 : (codeP m q ⟨#[]⟩ != 0) = true := by simpa using c0
    have c2 : (codeP m q ⟨#[]⟩ == 0) = false := by simpa using c0
    clear c0
    generalize hc : codeP m q ⟨#[]⟩ = c at *
    clear hc
    go_wp2_with fail
    go_ret2
    rw [HL.out, HA.out]
    exact ⟨_, rfl, hbb1, OwnI.nil _ _⟩
end Go.Proofs.Ythgkkaifdlkciaa

/- KindOfState, IsBoundedMachine, DepthOfState of the reference. -/
namespace Go.Proofs.Ythgkkaifdlkciaa
open Go.RowKit
set_option linter.unusedVariables false
set_option linter.unusedSimpArgs false

set_option maxRecDepth 100000 in
set_option maxHeartbeats 1000000 in
theorem specKindOfState_any (m : Mch) (hwf : m.Wf) (q : Int) (w : World) :
    Calls Try.prog 11 #[.agg m.cells.toArray, .int .i64 q] w (RetI (kosL m q) (codeP m q ⟨#[]⟩) w) := by
  have hm := MAt.boxed w m 28
  have hb0 := boxedBelow w m.cells.toArray 28
  go_enter Try.func11, Try.ntmps11
  go_wp2_with ((with_reducible refine ld_mach ?_ (.tmp 2) ?_ (w.heap.size) (0) ?_ m hm hwf ?_); exact rfl; exact rfl; exact rfl)
  refine (l07State_any m hwf q _).mono ?_
  rintro e w1 ⟨rfl, hb1⟩
  have hm1 := hm.keep hb1 hwf
  have hbb1 := hb0.trans (hb1.mono hb0.size)
  by_cases c0 : codeP m q ⟨#[]⟩ = 0
  · obtain ⟨hok, -, -, k, rfl, hk⟩ := code_zero c0
    have HL := Lib.hid (show kosL m k = [(kndI m k).1, (kndI m k).2] by rw [kosL, if_pos c0]; simp)
    have HC := Lib.hid c0
    have HK := Lib.hid (l09Kind_any m hwf hok k hk)
    rw [c0]
    clear c0
    go_wp2_with ((with_reducible refine ld_mach ?_ (.tmp 2) ?_ (w.heap.size) (0) ?_ m hm1 hwf ?_); exact rfl; exact rfl; exact rfl)
    refine (HK.out _).mono ?_
    rintro e w2 ⟨rfl, hb2⟩
    have HB := Lib.hid (hbb1.trans (hb2.mono hbb1.size))
    clear HK hm1 hb1 hb2 hm hb0
    generalize (kndI m k).1 = z at *
    generalize (kndI m k).2 = y at *
    have HO := Lib.hid ((OwnI.new2 w2 z y).less HB.out.size)
    have HB2 : Hid (∀ o, Below w.heap.size w (w2.alloc o)) := fun o => HB.out.alloc HB.out.size o
    go_wp2_with fail
    go_ret2
    rw [HL.out, HC.out]
    exact ⟨_, rfl, HB2.out _, HO.out⟩
  · have HL := Lib.hid (show kosL m q = [] by rw [kosL, if_neg c0])
    have c1 : (codeP m q ⟨#[]⟩ != 0) = true := by simpa using c0
    clear c0
    generalize hc : codeP m q ⟨#[]⟩ = c at *
    clear hc
    go_wp2_with fail
    go_ret2
    rw [HL.out]
    exact ⟨_, rfl, hbb1, OwnI.nil _ _⟩

set_option maxRecDepth 100000 in
set_option maxHeartbeats 1000000 in
theorem specDepthOfState_any (m : Mch) (hwf : m.Wf) (q : Int) (w : World) :
    Calls Try.prog 16 #[.agg m.cells.toArray, .int .i64 q] w (Ret2 (.int .i64 (dosI m q).1) (.int .i64 (dosI m q).2) w) := by
  have hm := MAt.boxed w m 28
  have hb0 := boxedBelow w m.cells.toArray 28
  go_enter Try.func16, Try.ntmps16
  go_wp2_with ((with_reducible refine ld_mach ?_ (.tmp 2) ?_ (w.heap.size) (0) ?_ m hm hwf ?_); exact rfl; exact rfl; exact rfl)
  refine (l07State_any m hwf q _).mono ?_
  rintro e w1 ⟨rfl, hb1⟩
  have hm1 := hm.keep hb1 hwf
  have hbb1 := hb0.trans (hb1.mono hb0.size)
  by_cases c0 : codeP m q ⟨#[]⟩ = 0
  · obtain ⟨hok, -, -, k, rfl, hk⟩ := code_zero c0
    have HD := Lib.hid (show dosI m k = if (kndI m k).1 ≠ 0 then (0, 5) else ((fzN m k : Int), 0) by rw [dosI, if_neg (by simpa using c0)]; simp)
    have HK := Lib.hid (l09Kind_any m hwf hok k hk)
    have HAC : Hid (actsL m k 20 = acts m k 21 ∧ actsC m k 20 = 0) := by
      have h1 : actsC m k 20 = 0 := by rw [actsC, if_pos c0]; rfl
      exact ⟨by rw [actsL, if_pos h1]; rfl, h1⟩
    have HAA := Lib.hid (specActivityCounts_any m hwf (k : Int) 20)
    have HMA := Lib.hid hm1
    rw [c0]
    clear c0
    go_wp2_with ((with_reducible refine ld_mach ?_ (.tmp 2) ?_ (w.heap.size) (0) ?_ m hm1 hwf ?_); exact rfl; exact rfl; exact rfl)
    refine (HK.out _).mono ?_
    rintro e w2 ⟨rfl, hb2⟩
    have hbb2 := hbb1.trans (hb2.mono hbb1.size)
    have hm2 := HMA.out.keep hb2 hwf
    clear HK hm1 hm hb0 hb1 hbb1 HMA
    by_cases c1 : (kndI m k).1 = 0
    · obtain ⟨h1, h2, h3⟩ := fz_spec hok hwf hk c1
      have HD2 : Hid (dosI m k = ((fzN m k : Int), 0)) := by show _ = _; rw [HD.out, if_neg (by simpa using c1)]
      have H2 := Lib.hid h2
      have H3 := Lib.hid h3
      have HGT : Hid (∀ i, i < 21 → (acts m k 21)[i]?.getD 0 = (sumR m (nowS m allB k i) m.s : Int)) := fun i hi => acts_get hi
      rw [c1]
      clear c1 h2 h3 HD
      generalize (kndI m k).2 = y at *
      go_wp2_with ((with_reducible refine ld_mach ?_ (.tmp 2) ?_ (w.heap.size) (0) ?_ m hm2 hwf ?_); exact rfl; exact rfl; exact rfl)
      refine (HAA.out _).mono ?_
      rintro e w3 ⟨v, rfl, hb3, hO⟩
      rw [HAC.out.1] at hO
      rw [HAC.out.2]
      have HB := Lib.hid (hbb2.trans (hb3.mono hbb2.size))
      obtain ⟨aA, cA, rfl, hA⟩ := id hO.form
      have hl21 : (acts m k 21).length = 21 := acts_len m k 21
      have HA : Hid (∀ i, i < 21 → ∃ b o, aA = some ⟨b, o, none⟩ ∧ w3.cell? ⟨b, o + i, none⟩ = some (.int .i64 (sumR m (nowS m allB k i) m.s : Int))) := fun i hi => by
        have := hA i (by rw [hl21]; exact hi)
        rwa [HGT.out i hi] at this
      rw [hl21]
      obtain ⟨gA, oA, rfl, -⟩ := HA.out 0 (by omega)
      have HA2 : Hid (∀ i, i < 21 → w3.cell? ⟨gA, oA + i, none⟩ = some (.int .i64 (sumR m (nowS m allB k i) m.s : Int))) := fun i hi => by
        obtain ⟨b, o, e, h⟩ := HA.out i hi
        injection e with e
        injection e with e1 e2
        subst e1 e2
        exact h
      clear hO hA HA HGT hm2 hbb2 hb3 hb2 HAA HAC hl21
      generalize fzN m k = z at *
      go_wp2_with fail
      go_loopw [11] (fun iv wr => ∃ i : Nat, i ≤ z ∧ iv = .int .i64 (i : Int) ∧ wr = w3) (fun iv _ => z - (intOf iv).toNat)
      case atStart => exact ⟨0, Nat.zero_le _, rfl, rfl⟩
      case round =>
        obtain ⟨i, hi, rfl, rfl⟩ := hrel
        have ei : IntKind.i64.wrap ((i : Int) + 1) = (i : Int) + 1 := IntWalk.i64_in _ (by omega)
        have i1 : (0 : Int) ≤ (i : Int) := by omega
        have i2 : (i : Int) < 21 := by omega
        have ci := HA2.out i (by omega)
        by_cases hlt : i < z
        · have hs := H3.out i hlt
          generalize sumR m (nowS m allB k i) m.s = s at *
          have j1 : (0 : Int) < (s : Int) := by omega
          clear hs
          go_wp2_with fail
          go_roundw
          case rel => exact ⟨i + 1, by omega, by go_num, trivial⟩
          case measure => simp [intOf] <;> omega
        · obtain rfl : i = z := by omega
          rw [H2.out] at ci
          go_wp2_with fail
          go_ret2
          rw [HD2.out]
          exact ⟨rfl, HB.out⟩
    · have HD2 : Hid (dosI m k = (0, 5)) := by show _ = _; rw [HD.out, if_pos c1]
      have c2 : ((kndI m k).1 != 0) = true := by simpa using c1
      generalize (kndI m k).1 = z at *
      clear c1 HAA HAC
      go_wp2_with fail
      go_ret2
      rw [HD2.out]
      exact ⟨rfl, hbb2⟩
  · have HL := Lib.hid (show dosI m q = (0, codeP m q ⟨#[]⟩) by rw [dosI, if_pos c0])
    have c1 : (codeP m q ⟨#[]⟩ != 0) = true := by simpa using c0
    clear c0
    generalize hc : codeP m q ⟨#[]⟩ = c at *
    clear hc
    go_wp2_with fail
    go_ret2
    rw [HL.out]
    exact ⟨rfl, hbb1⟩

set_option maxRecDepth 100000 in
set_option maxHeartbeats 1000000 in
theorem specIsBoundedMachine_any (m : Mch) (hwf : m.Wf) (w : World) :
    Calls Try.prog 8 #[.agg m.cells.toArray] w (Ret2 (.bool (ibI m).1) (.int .i64 (ibI m).2) w) := by
  have hm := MAt.boxed w m 28
  have hb0 := boxedBelow w m.cells.toArray 28
  go_enter Try.func8, Try.ntmps8
  go_wp2_with ((with_reducible refine ld_mach ?_ (.tmp 1) ?_ (w.heap.size) (0) ?_ m hm hwf ?_); exact rfl; exact rfl; exact rfl)
  refine (l01Is_any m hwf _).mono ?_
  rintro e w1 ⟨rfl, hb1⟩
  have hm1 := hm.keep hb1 hwf
  have hbb1 := hb0.trans (hb1.mono hb0.size)
  by_cases c1 : machP m = true
  · have hok := mach_ok c1
    have hs16 := hok.s_le
    have HBD := Lib.hid (fun q h1 h2 => ib_bad (m := m) (q := q) c1 h1 h2)
    have HGD := Lib.hid (fun h => ib_good (m := m) c1 h)
    have HKO := Lib.hid (l09Kind_any m hwf hok)
    have HMA := Lib.hid hm1
    have HBW : Hid (∀ W, Below w1.heap.size w1 W → Below w.heap.size w W) := fun W hW => hbb1.trans (hW.mono hbb1.size)
    rw [c1]
    clear c1 hm hm1 hb0 hb1 hbb1
    go_wp2_with fail
    go_loopw [4] (fun iv wr => ∃ k : Nat, k ≤ m.s ∧ iv = .int .i64 (k : Int) ∧ Hid (∀ j, j < k → unbB m j = false) ∧ Below w1.heap.size w1 wr) (fun iv _ => m.s - (intOf iv).toNat)
    case atStart => exact ⟨0, Nat.zero_le _, rfl, fun j hj => by omega, Below.refl _ _⟩
    case round =>
      obtain ⟨k, hk, rfl, HN, hb⟩ := hrel
      have ek : IntKind.i64.wrap ((k : Int) + 1) = (k : Int) + 1 := IntWalk.i64_in _ (by omega)
      have hm1 := HMA.out.keep hb hwf
      have hs1 := hm1.s
      rw [hok.S_eq] at hs1
      by_cases hlt : k < m.s
      · have k1 : (0 : Int) ≤ (k : Int) := by omega
        have k2 : (k : Int) < (m.s : Int) := by omega
        have HKK := Lib.hid (HKO.out k hlt)
        have HU : Hid (unbB m k = (decide ((kndI m k).1 = 2) || decide (0 < (kndI m k).2))) := rfl
        have HBK := Lib.hid (HBD.out k hlt)
        go_wp2_with ((with_reducible refine ld_mach ?_ (.tmp 1) ?_ (w.heap.size) (0) ?_ m hm1 hwf ?_); exact rfl; exact rfl; exact rfl)
        refine (HKK.out _).mono ?_
        rintro e w2 ⟨rfl, hb2⟩
        have HB2 := Lib.hid (hb.trans (hb2.mono hb.size))
        clear HKK hb2 hm1 hs1
        generalize (kndI m k).1 = z at *
        generalize (kndI m k).2 = y at *
        by_cases c2 : z = 2
        · subst c2
          have HR : Hid (ibI m = (false, 0)) := HBK.out (by rw [HU.out]; simp)
          clear HU HBK
          go_wp2_with fail
          go_ret2
          rw [HR.out]
          exact ⟨rfl, HBW.out _ HB2.out⟩
        · have j1 : (z == 2) = false := by simpa using c2
          by_cases c3 : 0 < y
          · have HR : Hid (ibI m = (false, 0)) := HBK.out (by rw [HU.out]; simp [c3])
            clear HU HBK c2
            go_wp2_with fail
            go_ret2
            rw [HR.out]
            exact ⟨rfl, HBW.out _ HB2.out⟩
          · have HN2 : Hid (∀ j, j < k + 1 → unbB m j = false) := fun j hj => by
              by_cases e : j = k
              · rw [e, HU.out]; simp [c2, c3]
              · exact HN.out j (by omega)
            clear HU HBK c2
            go_wp2_with fail
            go_roundw
            case rel => exact ⟨k + 1, by omega, by go_num, HN2, HB2.out⟩
            case measure => simp [intOf] <;> omega
      · obtain rfl : k = m.s := by omega
        have k2 : ¬ ((m.s : Int) < (m.s : Int)) := by omega
        have HR := Lib.hid (HGD.out HN.out)
        go_wp2_with fail
        go_ret2
        rw [HR.out]
        exact ⟨rfl, HBW.out _ hb⟩
  · have c1' : machP m = false := by simpa using c1
    have HR : Hid (ibI m = (false, 1)) := by show _ = _; rw [ibI, if_pos c1']
    rw [c1']
    clear c1
    go_wp2_with fail
    go_ret2
    rw [HR.out]
    exact ⟨rfl, hbb1⟩
end Go.Proofs.Ythgkkaifdlkciaa
