/- The program's activities. -/
import Derived.Test.YtmacnofkpdikiaaP1
import Derived.Test.YtmacnofkpdikiaaT3
import Derived.Test.YtmacnofkpdikiaaZ1
namespace Go.Proofs.Ytmacnofkpdikiaa
open Go.RowKit
set_option linter.unusedVariables false
set_option linter.unusedSimpArgs false

/-- n numbers -/
def nvs (n : Nat) (f : Nat → Nat) : List Value := (List.range n).map fun q => .int .i64 (f q : Int)
theorem nvs_get {n : Nat} (f : Nat → Nat) {q : Nat} (h : q < n) : (nvs n f)[q]? = some (.int .i64 (f q : Int)) := by simp [nvs, h]
theorem nvs_set {n : Nat} (f : Nat → Nat) {j : Nat} (v : Nat) (h : j < n) : (nvs n f).set j (.int .i64 (v : Int)) = nvs n (updN f j v) := by
  apply List.ext_getElem?
  intro i
  by_cases hi : i < n
  · rw [nvs_get _ hi]
    by_cases e : i = j
    · subst e; rw [List.getElem?_set_self (by simpa [nvs] using h)]; simp [updN]
    · rw [List.getElem?_set_ne (by omega), nvs_get _ hi]; simp [updN, e]
  · rw [List.getElem?_eq_none (by simp [nvs]; omega), List.getElem?_eq_none (by simp [nvs]; omega)]
/-- 'make([]int64, n)' -/
theorem mk_i64 (n : Nat) (hn : n ≤ 100000) (u : World) : (Instr.makeSlice 39 (.int .i64 (n : Int)) (.int .i64 (n : Int))).run Try.prog u =
    .ok (.slice (some ⟨u.heap.size, 0, none⟩) n n) (u.alloc (.cells (madeCells #[.int .i64 0] n) 2)) := by
  obtain ⟨i0, hi, hz0, hz1, hz2⟩ := info_parts Try.info2
  have h := run_make (P := Try.prog) u 39 2 i0 (.int .i64 0) Try.underlying39 hi hz0 .i64 .i64 (n : Int) (n : Int) (by omega) (Int.le_refl _) (by rw [hz2]; omega) (by omega)
  simpa [hz1, Value.cells] using h
theorem made_i64 (n : Nat) : (madeCells #[Value.int .i64 0] n).toList = nvs n fun _ => 0 := by
  simp only [madeCells, Array.toList_map, Array.toList_range, nvs]
  exact List.map_congr_left fun x _ => by simp [Nat.mod_one]
theorem acts_succ (m : Mch) (q k : Nat) : i64s (acts m q (k + 1)) = i64s (acts m q k) ++ [.int .i64 (sumR m (nowS m allB q k) m.s : Int)] := by simp [acts, i64s, List.range_succ]
theorem acts_length (m : Mch) (q k : Nat) : (acts m q k).length = k := by simp [acts]

set_option maxRecDepth 100000 in
set_option maxHeartbeats 4000000 in
theorem activity_any (b o : Nat) (m : Mch) (hwf : m.Wf) (hok : m.Ok) (q : Nat) (hq : q < m.s) (n : Nat) (hn : n ≤ 20) (w : World) (hm : MAt w b o m) :
    Calls Try.prog 80 #[.pointer (some ⟨b, o, none⟩), .int .i64 (q : Int), .int .i64 (n : Int)] w (fun e w' => ∃ v, e = .returned v ∧ Below w.heap.size w w' ∧ OwnI w' w.heap.size v (acts m q (n + 1))) := by
  obtain ⟨i0, hi, hz0, hz1, hz2⟩ := info_parts Try.info2
  have hs16 := hok.s_le
  have hl3 := hok.l_le
  have hbw : b < w.heap.size := World.block_lt_of_cell? w ⟨b, o, none⟩ hm.l
  go_enter Try.func80, Try.ntmps80
  go_wp2_with fail
  refine (table_any b o m hwf hok _ hm).mono ?_
  rintro e w1 ⟨T, rfl, hb1, hT⟩
  have hR := hT.reads hok.s_pos
  go_wp2_with fail
  refine (tableTrivial_any T m hwf hok _ hR).mono ?_
  rintro e w2 ⟨gt, rfl, hb2, hBt⟩
  have hR2 := hR.keep hb2
  have hbb2 := hb1.trans (hb2.mono hb1.size)
  have hm2 := hm.below hbb2 hbw
  have hcs : w2.cell? ⟨b, o + 1, none⟩ = some (.int .i64 (m.s : Int)) := by rw [← hok.S_eq]; exact hm2.s
  have hmk := mk_i64 m.s (by omega) w2
  have hN0 := Blk.new w2 (madeCells #[.int .i64 0] m.s) 2
  rw [made_i64] at hN0
  have hcq := hN0.cell' (nvs_get (fun _ => 0) hq)
  have hfq := hN0.free q
  have i1 : (0 : Int) ≤ (q : Int) := by omega
  have i2 : (q : Int) < (m.s : Int) := by omega
  have hN1 := Blk.new w2 ((madeCells #[.int .i64 0] m.s).setIfInBounds q (.int .i64 1)) 2
  rw [Array.toList_setIfInBounds, made_i64, show Value.int .i64 1 = .int .i64 ((1 : Nat) : Int) from rfl, nvs_set _ _ hq, show updN (fun _ => 0) q 1 = nowS m allB q 0 from funext fun r => by simp [nowS, updN]] at hN1
  have hb3 := hbb2.alloc hbb2.size (.cells ((madeCells #[.int .i64 0] m.s).setIfInBounds q (.int .i64 1)) 2)
  have ha2 : Below w2.heap.size w2 (w2.alloc (.cells ((madeCells #[.int .i64 0] m.s).setIfInBounds q (.int .i64 1)) 2)) := (Below.refl _ w2).alloc (Nat.le_refl _) _
  have hRl := hR2.keep ha2
  have hBl := hBt.keep ha2
  have hml := hm.below hb3 hbw
  obtain ⟨wl, hwl⟩ : ∃ wl, wl = w2.alloc (.cells ((madeCells #[.int .i64 0] m.s).setIfInBounds q (.int .i64 1)) 2) := ⟨_, rfl⟩
  have hN2 : Blk wl w2.heap.size (nvs m.s (nowS m allB q 0)) 2 := by rw [hwl]; exact hN1
  rw [← hwl] at hRl hBl hml hb3
  have hlt2 : w2.heap.size < wl.heap.size := hN2.lt
  go_wp2_with fail
  clear hN0 hN1 hcs hR hT hR2 hBt ha2 hmk hcq hfq hm2 hb1 hb2 hbb2
  go_loopw [9, 10, 31] (fun v9 v10 i wr => ∃ k gn : Nat, k ≤ n + 1 ∧ i = .int .i64 k ∧ v9 = .slice (some ⟨gn, 0, none⟩) m.s m.s ∧ Blk wr gn (nvs m.s (nowS m allB q k)) 2 ∧ OwnI wr wl.heap.size v10 (acts m q k) ∧ v10.ownBlock ≠ some gn ∧ Below wl.heap.size wl wr) (fun _ _ i _ => n + 1 - (intOf i).toNat)
  case atStart =>
    refine ⟨0, _, Nat.zero_le _, rfl, rfl, by rw [← hwl]; exact hN2, World.ownsRow_nil _ _ _ _, by simp [Value.ownBlock], by rw [hwl]; exact Below.refl _ _⟩
  case round =>
    clear hwl hN2
    obtain ⟨k, gn, hk, rfl, rfl, hN, hO, hne, hb⟩ := hrel
    by_cases hlt : k < n + 1
    · have hmr := hml.keep hb hwf
      have hcs : wr.cell? ⟨b, o + 1, none⟩ = some (.int .i64 (m.s : Int)) := by rw [← hok.S_eq]; exact hmr.s
      have hmk := mk_i64 m.s (by omega) wr
      have hX0 := Blk.new wr (madeCells #[.int .i64 0] m.s) 2
      rw [made_i64] at hX0
      obtain ⟨wo, rfl⟩ : ∃ wo : World, wo = wr := ⟨_, rfl⟩
      have hbx : Below wo.heap.size wo (wo.alloc (.cells (madeCells #[.int .i64 0] m.s) 2)) := (Below.refl _ _).alloc (Nat.le_refl _) _
      have HT0 := tot_nowS hok hwf allB hq k
      have HP := pow3 (k := k) (by omega)
      have HNOW : ∀ t, t < m.s → nowS m allB q k t ≤ 10460353203 := fun t ht => Nat.le_trans (le_tot _ _ _ ht) (by omega)
      have HNX : ∀ r, r < m.s → ∀ x, x ≤ m.l → ∀ t, t < m.s → nxX m (nowS m allB q k) r x (nxRow m allB (nowS m allB q k) r) t ≤ 70000000000 := fun r hr x hx t ht => by
        have h1 := le_tot (nxX m (nowS m allB q k) r x (nxRow m allB (nowS m allB q k) r)) m.s t ht
        rw [tot_nxX hok hwf _ _ hr x hx] at h1
        have h2 := tot_nxRow hok hwf allB (nowS m allB q k) r (by omega)
        have h3 := tot_mono (nowS m allB q k) r (m.s - r)
        rw [show r + (m.s - r) = m.s by omega] at h3
        have h4 : m.l * tot (nowS m allB q k) r ≤ 3 * 10460353203 := Nat.mul_le_mul hl3 (by omega)
        have h5 : nowS m allB q k r * x ≤ 10460353203 * 3 := Nat.mul_le_mul (HNOW r hr) (by omega)
        omega
      have HSUM : ∀ r, r ≤ m.s → sumR m (nowS m allB q k) r ≤ 10460353203 := fun r hr => by
        have h1 := sumR_le m (nowS m allB q k) r
        have h3 := tot_mono (nowS m allB q k) r (m.s - r)
        rw [show r + (m.s - r) = m.s by omega] at h3
        omega
      have HNOW' := Lib.hid HNOW
      have HNX' := Lib.hid HNX
      have HSUM' := Lib.hid HSUM
      clear HNOW HNX HSUM HT0 HP
      generalize hnow : nowS m allB q k = now at *
      go_wp2_with fail
      clear hmk
      obtain ⟨gN, cN, gO, cO, hc1, hc2, h3, h4⟩ := id (hRl.keep hb)
      have H3 := Lib.hid h3
      clear h3 h4 hc2
      have hTw : T < wo.heap.size := World.block_lt_of_cell? wo _ hc1
      go_loopw [11, 40] (fun v11 i wi => ∃ r : Nat, r ≤ m.s ∧ i = .int .i64 r ∧ v11 = .int .i64 (sumR m now r : Int) ∧ Blk wi wo.heap.size (nvs m.s (nxRow m allB now r)) 2 ∧ Below wo.heap.size wo wi) (fun _ i _ => m.s - (intOf i).toNat)
      case atStart => exact ⟨0, Nat.zero_le _, rfl, rfl, hX0, hbx⟩
      case round =>
        clear hX0 hbx
        obtain ⟨r, hr, rfl, rfl, hX, hbi⟩ := hrel
        by_cases hrlt : r < m.s
        · obtain ⟨g, cg, hcg, hrow⟩ := H3.out r hrlt
          have hgw : gN < wo.heap.size := World.block_lt_of_cell? wo _ hcg
          have HROW := Lib.hid hrow
          have e1 : wr.cell? ⟨T, 0, none⟩ = some (.slice (some ⟨gN, 0, none⟩) m.s cN) := (hbi.cell (p := ⟨T, 0, none⟩) hTw).trans hc1
          have e2 : wr.cell? ⟨gN, r, none⟩ = some (.slice (some ⟨g, 0, none⟩) m.l cg) := (hbi.cell (p := ⟨gN, r, none⟩) hgw).trans hcg
          have e3 := (hN.keep hbi).cell' (nvs_get now hrlt)
          have e4 := ((hBl.keep hb).keep hbi).cell' (bvs_get (trivB m) hrlt)
          have j1 : (0 : Int) ≤ (r : Int) := by omega
          have j2 : (r : Int) < (m.s : Int) := by omega
          have HM : (now r : Int) ≤ 10460353203 := by have := HNOW'.out r hrlt; omega
          have HS : (sumR m now r : Int) ≤ 10460353203 := by have := HSUM'.out r hr; omega
          have HSS : Hid (sumR m now (r + 1) = sumR m now r + if trivB m r then 0 else now r) := rfl
          clear hrow hcg
          obtain ⟨M, hM⟩ : ∃ M, M = now r := ⟨_, rfl⟩
          obtain ⟨SU, hSU⟩ : ∃ SU, SU = sumR m now r := ⟨_, rfl⟩
          rw [← hM] at e3 HM HSS
          rw [← hSU] at HS HSS
          rw [← hSU]
          have HMM := Lib.hid hM
          clear hM hSU
          obtain ⟨SV, hSV, HSV⟩ : ∃ SV : Nat, Hid (sumR m now (r + 1) = SV) ∧ SV = SU + (if trivB m r then 0 else M) := ⟨_, HSS, rfl⟩
          clear HSS
          cases ht : trivB m r
          · rw [ht] at e4 HSV
            simp only [Bool.false_eq_true, if_false] at HSV
            clear ht
            go_wp2_with fail
            obtain ⟨wb, rfl⟩ : ∃ wb : World, wb = wr := ⟨_, rfl⟩
            go_loopw [61] (fun i wi => ∃ x : Nat, x ≤ m.l ∧ i = .int .i64 x ∧ Blk wi wo.heap.size (nvs m.s (nxX m now r x (nxRow m allB now r))) 2 ∧ Below wo.heap.size wo wi) (fun i _ => m.l - (intOf i).toNat)
            case atStart => exact ⟨0, Nat.zero_le _, rfl, hX, hbi⟩
            case round =>
              clear hX hbi e1 e2 e3 e4
              obtain ⟨x, hx, rfl, hX, hbi⟩ := hrel
              by_cases hxlt : x < m.l
              · have c0 := HROW.out x hxlt
                have hgx : g < wo.heap.size := World.block_lt_of_cell? wo _ c0
                rw [← hbi.cell (p := ⟨g, x, none⟩) hgx] at c0
                have hnn := hok.nn_lt hwf hrlt hxlt
                have c1 := hX.cell' (nvs_get (nxX m now r x (nxRow m allB now r)) hnn)
                have f1 := hX.free (m.nn r x)
                have HB := HNX'.out r hrlt x hx (m.nn r x) hnn
                have hset := hX.setCell (m.nn r x) (.int .i64 ((nxX m now r x (nxRow m allB now r) (m.nn r x) + now r : Nat) : Int))
                rw [nvs_set _ _ hnn] at hset
                have HSET : Hid (Blk (wr.setCell ⟨wo.heap.size, m.nn r x, none⟩ (.int .i64 ((nxX m now r x (nxRow m allB now r) (m.nn r x) : Int) + (now r : Int)))) wo.heap.size (nvs m.s (nxX m now r (x + 1) (nxRow m allB now r))) 2) := by
                  rw [Int.natCast_add] at hset; exact hset
                have hbs := hbi.setCell (p := ⟨wo.heap.size, m.nn r x, none⟩) (Nat.le_refl _) (.int .i64 ((nxX m now r x (nxRow m allB now r) (m.nn r x) : Int) + (now r : Int)))
                clear hset
                rw [← HMM.out] at HSET hbs
                obtain ⟨F, hF⟩ : ∃ F, F = nxX m now r x (nxRow m allB now r) (m.nn r x) := ⟨_, rfl⟩
                rw [← hF] at c1 HB HSET hbs
                clear hF
                have i3 : (0 : Int) ≤ (x : Int) := by omega
                have i4 : (x : Int) < (m.l : Int) := by omega
                have i5 : (F : Int) ≤ 70000000000 := by omega
                generalize m.nn r x = z at *
                have i6 : (0 : Int) ≤ (z : Int) := by omega
                have i7 : (z : Int) < (m.s : Int) := by omega
                clear HB
                go_wp2_with fail
                go_roundw
                case rel => exact ⟨x + 1, by omega, by go_num, HSET.out, hbs⟩
                case measure => simp [intOf]; omega
              · have hx' : x = m.l := by omega
                subst hx'
                have HN : Hid (Blk wr wo.heap.size (nvs m.s (nxRow m allB now (r + 1))) 2) := by
                  show Blk _ _ _ _
                  simpa [nxRow, allB] using hX
                go_wp2_with fail
                go_roundw
                case rel => exact ⟨r + 1, by omega, by go_num, by rw [hSV.out, HSV]; go_num, HN.out, hbi⟩
                case measure => simp [intOf]; omega
          · rw [ht] at e4 HSV
            simp only [if_true, Nat.add_zero] at HSV
            clear ht
            go_wp2_with fail
            obtain ⟨wb, rfl⟩ : ∃ wb : World, wb = wr := ⟨_, rfl⟩
            go_loopw [61] (fun i wi => ∃ x : Nat, x ≤ m.l ∧ i = .int .i64 x ∧ Blk wi wo.heap.size (nvs m.s (nxX m now r x (nxRow m allB now r))) 2 ∧ Below wo.heap.size wo wi) (fun i _ => m.l - (intOf i).toNat)
            case atStart => exact ⟨0, Nat.zero_le _, rfl, hX, hbi⟩
            case round =>
              clear hX hbi e1 e2 e3 e4
              obtain ⟨x, hx, rfl, hX, hbi⟩ := hrel
              by_cases hxlt : x < m.l
              · have c0 := HROW.out x hxlt
                have hgx : g < wo.heap.size := World.block_lt_of_cell? wo _ c0
                rw [← hbi.cell (p := ⟨g, x, none⟩) hgx] at c0
                have hnn := hok.nn_lt hwf hrlt hxlt
                have c1 := hX.cell' (nvs_get (nxX m now r x (nxRow m allB now r)) hnn)
                have f1 := hX.free (m.nn r x)
                have HB := HNX'.out r hrlt x hx (m.nn r x) hnn
                have hset := hX.setCell (m.nn r x) (.int .i64 ((nxX m now r x (nxRow m allB now r) (m.nn r x) + now r : Nat) : Int))
                rw [nvs_set _ _ hnn] at hset
                have HSET : Hid (Blk (wr.setCell ⟨wo.heap.size, m.nn r x, none⟩ (.int .i64 ((nxX m now r x (nxRow m allB now r) (m.nn r x) : Int) + (now r : Int)))) wo.heap.size (nvs m.s (nxX m now r (x + 1) (nxRow m allB now r))) 2) := by
                  rw [Int.natCast_add] at hset; exact hset
                have hbs := hbi.setCell (p := ⟨wo.heap.size, m.nn r x, none⟩) (Nat.le_refl _) (.int .i64 ((nxX m now r x (nxRow m allB now r) (m.nn r x) : Int) + (now r : Int)))
                clear hset
                rw [← HMM.out] at HSET hbs
                obtain ⟨F, hF⟩ : ∃ F, F = nxX m now r x (nxRow m allB now r) (m.nn r x) := ⟨_, rfl⟩
                rw [← hF] at c1 HB HSET hbs
                clear hF
                have i3 : (0 : Int) ≤ (x : Int) := by omega
                have i4 : (x : Int) < (m.l : Int) := by omega
                have i5 : (F : Int) ≤ 70000000000 := by omega
                generalize m.nn r x = z at *
                have i6 : (0 : Int) ≤ (z : Int) := by omega
                have i7 : (z : Int) < (m.s : Int) := by omega
                clear HB
                go_wp2_with fail
                go_roundw
                case rel => exact ⟨x + 1, by omega, by go_num, HSET.out, hbs⟩
                case measure => simp [intOf]; omega
              · have hx' : x = m.l := by omega
                subst hx'
                have HN : Hid (Blk wr wo.heap.size (nvs m.s (nxRow m allB now (r + 1))) 2) := by
                  show Blk _ _ _ _
                  simpa [nxRow, allB] using hX
                go_wp2_with fail
                go_roundw
                case rel => exact ⟨r + 1, by omega, by go_num, by rw [hSV.out, HSV], HN.out, hbi⟩
                case measure => simp [intOf]; omega
        · have hr' : r = m.s := by omega
          subst hr'
          have hOr := hO.below hbi
          have hbX := hb.trans (hbi.mono hb.size)
          have HLEN := acts_length m q k
          have HS : (sumR m now m.s : Int) ≤ 10460353203 := by have := HSUM'.out m.s (Nat.le_refl _); omega
          have HAC := Lib.hid (acts_succ m q k)
          rw [hnow] at HAC
          have HNX2 : Hid (Blk wr wo.heap.size (nvs m.s (nowS m allB q (k + 1))) 2) := by
            show Blk _ _ _ _
            rw [nowS, hnow]; exact hX
          have hXlt := hX.lt
          have hOlt : ∀ g, u10.ownBlock = some g → g < wo.heap.size := fun g hg => (World.ownsRow.lt hO g hg).2
          have HOLT := Lib.hid hOlt
          clear hX hOlt hc1
          obtain ⟨SU, hSU⟩ : ∃ SU, SU = sumR m now m.s := ⟨_, rfl⟩
          rw [← hSU] at HS HAC
          rw [← hSU]
          clear hSU
          go_wp2_with (at_builtin; refine wpList_append_lies _ rfl (.tmp 74) (.tmp 76) 39 rfl wl.heap.size 2 i0 (.int .i64 0) 1 8 Try.underlying39 hi hz0 hz1 hz2 rfl (by decide) _ _ _ rfl (World.ownsRow.alloc hOr _) ⟨_, 0, none⟩ 1 1 [.int .i64 (SU : Int)] rfl rfl (one_news _ _ _) (by simp [Value.oneCell']) (by omega) ?c3 ?c4 ?c5 _ rfl ?_)
          case c3 => simp [maxLen]; omega
          case c4 => omega
          case c5 => have := hbX.size; simp; omega
          intro g cap w1 hown hgrow hlies hlt1
          obtain ⟨hb1, hsz1, -⟩ := grown_below hbX hOr (Nat.le_refl _) hbX.size hgrow
          have hXk : Blk w1 wo.heap.size (nvs m.s (nowS m allB q (k + 1))) 2 :=
            (hgrow.block wo.heap.size (by simp; omega) (fun e => by have := HOLT.out _ e.symm; omega)).trans (HNX2.out.alloc _)
          have hne' : (Value.slice (some ⟨g, 0, none⟩) (k + 1) cap).ownBlock ≠ some wo.heap.size := fun e => by
            simp only [Value.ownBlock] at e
            rcases hlies with h | h
            · have := HOLT.out _ h; simp at e; omega
            · simp at h e; omega
          have hO1 : Hid (OwnI w1 wl.heap.size (.slice (some ⟨g, 0, none⟩) (k + 1) cap) (acts m q (k + 1))) := by
            show World.ownsRow _ _ _ _ _ _ _
            rw [HAC.out, acts_length]
            exact hown
          clear hown hgrow hlies hlt1 hOr hO hbX HNX2
          go_wp2_with fail
          go_roundw
          case rel => exact ⟨k + 1, _, by omega, by go_num, rfl, hXk, hO1.out, hne', hb1⟩
          case measure => simp [intOf]; omega
    · have hk' : k = n + 1 := by omega
      subst hk'
      have hend := hb3.trans (hb.mono hb3.size)
      have hO2 := Lib.hid (hO.less (C := w.heap.size) (by have := hb3.size; omega))
      clear hO
      go_wp2_with fail
      go_ret
      exact ⟨_, rfl, hend, hO2.out⟩
end Go.Proofs.Ytmacnofkpdikiaa
