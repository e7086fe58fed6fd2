/- ReturnWords of both sides. -/
import Derived.Test.YtmacnofkpdikiaaW3
import Derived.Test.YtmacnofkpdikiaaC4
namespace Go.Proofs.Ytmacnofkpdikiaa
open Go.RowKit
set_option linter.unusedVariables false
set_option linter.unusedSimpArgs false

def rwC (m : Mch) (q n : Int) : Int := if levC m n = 0 then (if inR q 0 (m.S - 1) then 0 else 2) else levC m n
def rwP (m : Mch) (n q k : Nat) : Bool := m.tbl.fin (wsec m n q k) == m.tbl.fin q
def rwL (m : Mch) (q n : Int) : List Int := if rwC m q n = 0 then whereL (rwP m n.toNat q.toNat) (m.l ^ n.toNat) else []
theorem rwC_zero {m : Mch} {q n : Int} (h : rwC m q n = 0) : levC m n = 0 ∧ ∃ k : Nat, q = k ∧ k < m.s := by
  unfold rwC at h
  split at h
  · rename_i h1
    obtain ⟨hok, _⟩ := levC_zero h1
    have hS := hok.S_eq
    split at h
    · rename_i h2
      simp only [inR, Bool.and_eq_true, decide_eq_true_eq] at h2
      exact ⟨h1, q.toNat, by omega, by omega⟩
    · omega
  · rename_i h1; exact absurd h h1
theorem rwL_len (m : Mch) (q n : Int) : (rwL m q n).length ≤ 100000 := by
  unfold rwL
  split
  · rename_i h; exact whereLv_len (rwC_zero h).1 _
  · simp
theorem codeP_ok {m : Mch} (h : machP m = true) (q : Int) : codeP m q ⟨#[]⟩ = if inR q 0 (m.S - 1) then 0 else 2 := by
  have hw : wordP m.L ⟨#[]⟩ = true := rfl
  simp only [codeP, h, hw, Bool.and_self, if_true]
theorem levC_mach {m : Mch} {n : Int} (h : levC m n = 0) : machP m = true := by
  unfold levC at h
  split at h
  · assumption
  · omega

set_option maxRecDepth 100000 in
set_option maxHeartbeats 1000000 in
theorem stateLevelCode_any (m : Mch) (hwf : m.Wf) (q n : Int) (w : World) :
    Calls Try.prog 88 #[.agg m.cells.toArray, .int .i64 q, .int .i64 n] w (Ret (.int .i64 (rwC m q n)) w) := by
  have hm := MAt.boxed w m 44
  have hb0 := boxedBelow w m.cells.toArray 44
  go_enter Try.func88, Try.ntmps88
  go_wp2_with ((with_reducible refine ld_mach ?_ (.tmp 3) ?_ (w.heap.size) (0) ?_ m hm hwf ?_); exact rfl; exact rfl; exact rfl)
  refine (levelCode_any m hwf n _).mono ?_
  rintro e w1 ⟨rfl, hb1⟩
  have hm1 := hm.keep hb1 hwf
  have hbb1 := hb0.trans (hb1.mono hb0.size)
  by_cases c0 : levC m n = 0
  · have HF : Hid (rwC m q n = codeP m q ⟨#[]⟩) := by show _ = _; rw [rwC, if_pos c0, codeP_ok (levC_mach c0)]
    rw [c0]
    clear c0
    have hI : IntsAt (w1.alloc (.cells #[.int .i64 q] 2)) (some ⟨w1.heap.size, 0, none⟩) [q] := fun i hi => by
      have : i = 0 := by simpa using hi
      subst this
      exact ⟨_, 0, rfl, (Blk.new w1 #[.int .i64 q] 2).cell' (i := 0) rfl⟩
    have hbb2 := hbb1.alloc hbb1.size (.cells #[.int .i64 q] 2)
    go_wp2_with ((with_reducible refine ld_mach ?_ (.tmp 3) ?_ (w.heap.size) (0) ?_ m hm1 hwf ?_); exact rfl; exact rfl; exact rfl)
    refine (codeOf_any m hwf _ [q] 1 (by simp) _ short_nil _ hI).mono ?_
    rintro e w2 ⟨rfl, hb2⟩
    rw [codesP_one]
    have hbb3 := hbb2.trans (hb2.mono hbb2.size)
    go_wp2_with fail
    go_ret
    exact ⟨ret_int HF.out.symm, hbb3⟩
  · have HF : Hid (rwC m q n = levC m n) := by show _ = _; rw [rwC, if_neg c0]
    have c1 : (levC m n != 0) = true := by simpa using c0
    clear c0
    generalize levC m n = c at *
    go_wp2_with fail
    go_ret
    exact ⟨ret_int HF.out.symm, hbb1⟩

theorem enters_rw : Enters 90 := fun args w => by kernel_rfl
set_option maxRecDepth 100000 in
set_option maxHeartbeats 1000000 in
theorem rw1_any (b : Nat) (m : Mch) (hwf : m.Wf) (hok : m.Ok) (n q k : Nat) (hq : q < m.s) (hn : n ≤ 40) (d c g : Nat) (w : World) (hm : MAt w b 0 m) (hd : w.cell? ⟨d, 0, none⟩ = some (.int .i64 q)) (cc : Nat) (hc : w.cell? ⟨c, 0, none⟩ = some (.slice (some ⟨g, 0, none⟩) m.s cc))
    (hB : ∀ i, i < m.s → w.cell? ⟨g, i, none⟩ = some (.int .i64 (m.tbl.fin i))) :
    Calls Try.prog 90 #[.string (txt (digs m.l n k)), .pointer (some ⟨b, 0, none⟩), .pointer (some ⟨d, 0, none⟩), .pointer (some ⟨c, 0, none⟩)] w (Ret (.bool (rwP m n q k)) w) := by
  have hs16 := hok.s_le
  have HL := Lib.hid (word_lets hok n k)
  have HT := Lib.hid (word_lts hok n k)
  have HSZ : Hid ((txt (digs m.l n k)).size ≤ 40) := by show _ ≤ _; rw [txt_size, digs_length]; exact hn
  have HWS : Hid ((runL m q (digs m.l n k)).2 = wsec m n q k) := rfl
  have HRW : Hid (rwP m n q k = (m.tbl.fin (wsec m n q k) == m.tbl.fin q)) := rfl
  have HB := Lib.hid hB
  clear hB
  go_enter Try.func90, Try.ntmps90
  generalize txt (digs m.l n k) = t at *
  go_wp2_with fail
  refine (lead_any b 0 m hwf hok q hq t HL.out HSZ.out _ hm).mono ?_
  rintro e w1 ⟨rfl, hb1⟩
  rw [HT.out, HWS.out]
  have K : ∀ (a : Addr) (v : Value), w.cell? a = some v → w1.cell? a = some v := fun a v h => (hb1.cell (World.block_lt_of_cell? w a h)).trans h
  have hr := wsec_lt hok hwf hq n k
  have c1 := K _ _ hc
  have c2 := K _ _ hd
  have c3 := K _ _ (HB.out _ hr)
  have c4 := K _ _ (HB.out _ hq)
  clear K hm hc hd
  generalize (runL m q (digs m.l n k)).1 = o1 at *
  generalize wsec m n q k = r at *
  have i1 : (0 : Int) ≤ (r : Int) := by omega
  have i2 : (r : Int) < (m.s : Int) := by omega
  have i3 : (0 : Int) ≤ (q : Int) := by omega
  have i4 : (q : Int) < (m.s : Int) := by omega
  generalize m.tbl.fin r = u at *
  generalize m.tbl.fin q = v at *
  have HY : Hid (((u : Int) == (v : Int)) = (u == v)) := by show _ = _; rw [Bool.eq_iff_iff]; simp; omega
  go_wp2_with fail
  go_quiet (fail)
  go_wp2_with fail
  go_ret
  exact ⟨ret_bool (by rw [HRW.out, HY.out]), below_dN hb1 _⟩

set_option maxRecDepth 100000 in
set_option maxHeartbeats 1000000 in
theorem implReturnWords_any (m : Mch) (hwf : m.Wf) (q n : Int) (w : World) :
    Calls Try.prog 42 #[.agg m.cells.toArray, .int .i64 q, .int .i64 n] w (RetI (rwL m q n) (rwC m q n) w) := by
  have hM0 := ((Mm.start w).alloc m.cells.toArray 44).alloc #[.int .i64 q] 2
  rw [show (w.alloc (.cells m.cells.toArray 44)).heap.size = w.heap.size + 1 by simp, List.toList_toArray] at hM0
  have hm0 := hM0.mach 1 rfl
  have hq0 := (hM0.at 0 rfl).cell' (i := 0) rfl
  have hmf : ∀ (fn : Fn) (first cap : Array Value) (w : World), (Instr.makeFunc fn first cap).run Try.prog w = .ok (.func fn first cap) w := fun _ _ _ _ => rfl
  go_enter Try.func42, Try.ntmps42
  go_wp2_with ((with_reducible refine ld_mach ?_ (.tmp 3) ?_ (w.heap.size) (0) ?_ m hm0 hwf ?_); exact rfl; exact rfl; exact rfl)
  refine (stateLevelCode_any m hwf q n _).mono ?_
  rintro e w1 ⟨rfl, hb1⟩
  have hM1 := hM0.call hb1
  clear hM0 hm0 hq0
  by_cases c0 : rwC m q n = 0
  · obtain ⟨hl0, k, rfl, hk⟩ := rwC_zero c0
    obtain ⟨hok, j, rfl, hj, hj5⟩ := levC_zero hl0
    have HL : Hid (rwL m k j = whereL (rwP m j k) (m.l ^ j)) := by show _ = _; rw [rwL, if_pos c0]; simp
    have HC := Lib.hid c0
    have hs16 := hok.s_le
    rw [c0]
    clear c0 hl0
    go_wp2_with fail
    refine (table_any w.heap.size 0 m hwf hok _ (hM1.mach 1 rfl)).mono ?_
    rintro e w2 ⟨T, rfl, hb2, hT⟩
    have hR := (hT.reads hok.s_pos).gen
    have hM2 := hM1.call hb2
    go_wp2_with fail
    refine (least_any m.tbl (m.tbl_wf hok hwf) (by show m.s ≤ _; omega) (by show m.l ≤ _; have := hok.l_le; omega) hok.s_pos T _ hR).mono ?_
    rintro e w3 ⟨v, rfl, hb3, hO⟩
    have hM3 := hM2.call hb3
    obtain ⟨a, c, rfl, hI⟩ := id hO.form
    rw [finL_len, show m.tbl.n = m.s from rfl]
    obtain ⟨g, rfl, hgc⟩ : ∃ g, a = some ⟨g, 0, none⟩ ∧ ∀ i, i < m.s → w3.cell? ⟨g, i, none⟩ = some (.int .i64 (m.tbl.fin i)) := by
      have hp : 0 < (finL m.tbl).length := by rw [finL_len]; exact hok.s_pos
      obtain ⟨g, c', e, hlt, hge, hcell⟩ := own_form hO hp
      have e1 : a = some ⟨g, 0, none⟩ := by injection e
      refine ⟨g, e1, fun i hi => ?_⟩
      have := hcell i (.int .i64 ((finL m.tbl)[i]?.getD 0)) (i64s_get (by rw [finL_len]; exact hi))
      rwa [finL_get m.tbl hi] at this
    have hM4 := hM3.alloc #[.slice (some ⟨g, 0, none⟩) m.s c] 39
    obtain ⟨w4, hw4⟩ : ∃ w4, w4 = w3.alloc (.cells #[.slice (some ⟨g, 0, none⟩) m.s c] 39) := ⟨_, rfl⟩
    obtain ⟨b4, hb4⟩ : ∃ b4, b4 = w3.heap.size := ⟨_, rfl⟩
    rw [← hw4, ← hb4] at hM4
    have HGC : Hid (∀ W, Below w4.heap.size w4 W → ∀ i, i < m.s → W.cell? ⟨g, i, none⟩ = some (.int .i64 (m.tbl.fin i))) := fun W hW i hi => by
      have hlt := World.block_lt_of_cell? w3 _ (hgc i hi)
      have h1 : w4.cell? ⟨g, i, none⟩ = w3.cell? ⟨g, i, none⟩ := by rw [hw4]; exact ((Below.refl _ w3).alloc (Nat.le_refl _) _).cell (p := ⟨g, i, none⟩) hlt
      rw [hgc i hi] at h1
      exact (hW.cell (p := ⟨g, i, none⟩) (World.block_lt_of_cell? w4 _ h1)).trans h1
    have HM4 := Lib.hid hM4
    have HW4 := Lib.hid hw4
    have HB4 := Lib.hid hb4
    clear hR hT hM1 hM2 hM3 hO hI hgc hM4 hw4 hb4
    go_wp2_with fail
    rw [← HW4.out, ← HB4.out]
    refine (numbersWhere_any w.heap.size 0 m hwf hok j hj 90 enters_rw #[.pointer (some ⟨w.heap.size, 0, none⟩), .pointer (some ⟨w.heap.size + 1, 0, none⟩), .pointer (some ⟨b4, 0, none⟩)] (rwP m j k) w4 (HM4.out.mach 2 rfl) (fun W hW i hi =>
      rw1_any w.heap.size m hwf hok j k i hk (by omega) (w.heap.size + 1) b4 g W ((HM4.out.call hW).mach 2 rfl) (((HM4.out.call hW).at 1 rfl).cell' rfl) c (((HM4.out.call hW).at 0 rfl).cell' rfl) (HGC.out W hW))).mono ?_
    rintro e w5 ⟨v, rfl, hb5, hO⟩
    have HB := Lib.hid ((HM4.out.call hb5).below)
    have HO := Lib.hid (hO.less (C := w.heap.size) HM4.out.size)
    clear hO hmf
    go_wp2_with fail
    go_ret2
    rw [HL.out, HC.out]
    exact ⟨_, rfl, HB.out, HO.out⟩
  · have HL : Hid (rwL m q n = []) := by show _ = _; rw [rwL, if_neg c0]
    have c1 : (rwC m q n != 0) = true := by simpa using c0
    have hbl := hM1.below
    clear c0 hM1
    generalize hc : rwC m q n = c at *
    clear hc
    go_wp2_with fail
    go_ret2
    rw [HL.out]
    exact ⟨_, rfl, hbl, OwnI.nil _ _⟩

set_option maxRecDepth 100000 in
set_option maxHeartbeats 2000000 in
theorem specReturnWords_any (m : Mch) (hwf : m.Wf) (q n : Int) (w : World) :
    Calls Try.prog 41 #[.agg m.cells.toArray, .int .i64 q, .int .i64 n] w (RetI (rwL m q n) (rwC m q n) w) := by
  obtain ⟨i0, hi, hz0, hz1, hz2⟩ := info_parts Try.info2
  have hm := MAt.boxed w m 44
  have hb0 := boxedBelow w m.cells.toArray 44
  have HR := Lib.hid (levC_range m n)
  go_enter Try.func41, Try.ntmps41
  go_wp2_with ((with_reducible refine ld_mach ?_ (.tmp 3) ?_ (w.heap.size) (0) ?_ m hm hwf ?_); exact rfl; exact rfl; exact rfl)
  refine (l05Code_any m hwf n _).mono ?_
  rintro e w1 ⟨rfl, hb1⟩
  have hm1 := hm.keep hb1 hwf
  have hbb1 := hb0.trans (hb1.mono hb0.size)
  by_cases c0 : levC m n = 0
  · have HRW : Hid (rwC m q n = if inR q 0 (m.S - 1) then 0 else 2) := by show _ = _; rw [rwC, if_pos c0]
    obtain ⟨hok, j, rfl, hj, hj5⟩ := levC_zero c0
    have HC0 := Lib.hid c0
    rw [c0]
    clear c0
    have hs1 := hm1.s
    have h1 := hok.s1
    have h2 := hok.s16
    cases c1 : inR q 0 (m.S - 1)
    · rw [c1] at HRW
      simp only [Bool.false_eq_true, if_false] at HRW
      have HL : Hid (rwL m q j = []) := by show _ = _; rw [rwL, if_neg (by rw [HRW.out]; decide)]
      go_wp2_with (go_at_call 53; refine (l01In_any _ _ _ _).mono ?_; rintro e w' ⟨rfl, rfl⟩)
      go_ret2
      rw [HL.out, HRW.out]
      exact ⟨_, rfl, hbb1, OwnI.nil _ _⟩
    · rw [c1] at HRW
      simp only [if_true] at HRW
      obtain ⟨k, rfl, hk⟩ : ∃ k : Nat, q = k ∧ k < m.s := by
        have hS := hok.S_eq
        simp only [inR, Bool.and_eq_true, decide_eq_true_eq] at c1
        exact ⟨q.toNat, by omega, by omega⟩
      have HL : Hid (rwL m k j = whereL (rwP m j k) (m.l ^ j)) := by show _ = _; rw [rwL, if_pos HRW.out]; simp
      have hl2 := hok.l_ge
      have hl3 := hok.l_le
      have hs16 := hok.s_le
      have hp := pow_level hl2 hl3 hj
      go_wp2_with (first | (go_at_call 53; refine (l01In_any _ _ _ _).mono ?_; rintro e w' ⟨rfl, rfl⟩) | ((with_reducible refine ld_mach ?_ (.tmp 3) ?_ (w.heap.size) (0) ?_ m hm1 hwf ?_); exact rfl; exact rfl; exact rfl))
      refine (l01Classes_any m hwf hok _).mono ?_
      rintro e w2 ⟨rfl, hb2⟩
      have hm2 := hm1.keep hb2 hwf
      have hbb2 := hbb1.trans (hb2.mono hbb1.size)
      have HCL : Hid (∀ i, i < m.s → (fun q => if q < m.s then m.tbl.fin q else 0) i = m.tbl.fin i) := fun i hi => if_pos hi
      generalize (fun q => if q < m.s then m.tbl.fin q else 0) = cl at *
      have hM0 := ((Mm.start w2).alloc #[] 2).alloc #[.int .i64 0, .int .i64 0, .int .i64 0, .int .i64 0, .int .i64 0, .int .i64 0, .int .i64 0, .int .i64 0, .int .i64 0, .int .i64 0, .int .i64 0, .int .i64 0, .int .i64 0, .int .i64 0, .int .i64 0, .int .i64 0] 99
      rw [show (w2.alloc (.cells #[] 2)).heap.size = w2.heap.size + 1 by simp] at hM0
      have ht := (hM0.at 0 rfl).there 0 (nvs 16 cl).length (by simp [nvs_len])
      have hM1 := (hM0.setAll 0 rfl (vs := nvs 16 cl) (by simp [nvs_len])).addOwn (b := w2.heap.size) (cs := []) (T := 2) (by simp) 0 rfl (by omega)
      simp only [List.set_cons_zero, show (List.filter (fun x : Nat × List Value × TypeId => x.1 != w2.heap.size) [(w2.heap.size + 1, nvs 16 cl, 99), (w2.heap.size, ([] : List Value), 2)]) = [(w2.heap.size + 1, nvs 16 cl, 99)] from by simp] at hM1
      have HI := Lib.hid (nvs16_info cl)
      have H1 := Lib.hid (nvs_one 16 cl)
      have hbw : w.heap.size < w2.heap.size := World.block_lt_of_cell? w2 ⟨w.heap.size, 0, none⟩ hm2.l
      clear hM0 hm1 hm hs1
      go_wp2_with ((with_reducible refine st_row ?_ 99 (.tmp 9) (.tmp 31) ?_ (w2.heap.size + 1) 0 (nvs 16 cl) ?_ ?_ ht HI.out H1.out ?_); exact rfl; exact rfl; exact rfl; exact rfl)
      clear ht
      have HPOW : Hid (∀ W, Calls Try.prog 82 #[.int .i64 m.l, .int .i64 j] W fun e w' => e = .returned (.int .i64 ((m.l ^ j : Nat) : Int)) ∧ W = w') := fun W => l01Power_any m.l j hl3 (by omega) W
      have HWO : Hid (∀ (k : Nat) W, k ≤ 1000 → Calls Try.prog 83 #[.int .i64 m.l, .int .i64 j, .int .i64 k] W (Ret (.string (txt (digs m.l j k))) W)) := fun (k : Nat) W hk => l01WordOf_any m.l hl2 hl3 j k (by omega) (by omega) W
      obtain ⟨P, hP⟩ : ∃ P, P = m.l ^ j := ⟨_, rfl⟩
      rw [← hP] at hp HL HPOW
      clear hP
      go_loopw [10, 11] (fun v i wr => ∃ x : Nat, x ≤ P ∧ i = .int .i64 x ∧ Mm w2.heap.size w2 wr [(w2.heap.size + 1, nvs 16 cl, 99)] [(v, 2, i64s (whereL (rwP m j k) x))]) (fun _ i _ => P - (intOf i).toNat)
      case atStart => exact ⟨0, Nat.zero_le _, rfl, hM1⟩
      case round =>
        clear hM1
        obtain ⟨x, hx, rfl, hM⟩ := hrel
        have hmr := hm2.below hM.below hbw
        have hcl : wr.cell? ⟨w.heap.size, 0, none⟩ = some (.int .i64 (m.l : Int)) := by rw [← hok.L_eq]; exact hmr.l
        by_cases hlt : x < P
        · go_wp2_with fail
          refine (HPOW.out _).mono ?_
          rintro e w' ⟨rfl, rfl⟩
          have i1 : (x : Int) < (P : Int) := by omega
          have hmx : Try.prog.follows .mixedOrders = true := by kernel_rfl
          have HMX := Lib.hid hmx
          have HIM := Lib.hid (mach_info hwf)
          have HWS : Hid ((runL m k (lts (txt (digs m.l j x)))).2 = wsec m j k x) := by show _ = _; rw [word_lts hok]; rfl
          have HACT : Hid (∀ W, Calls Try.prog 72 #[.agg m.cells.toArray, .int .i64 k, .string (txt (digs m.l j x))] W fun e w' => e = .returned (.tuple #[.string (txt (runL m k (lts (txt (digs m.l j x)))).1), .int .i64 (runL m k (lts (txt (digs m.l j x)))).2]) ∧ Below W.heap.size W w') :=
            fun W => l01Act_any m hwf hok k hk _ (word_lets hok j x) (by rw [txt_size, digs_length]; omega) W
          have HS : Hid (∀ W, Below wr.heap.size wr W → MAt W w.heap.size 0 m) := fun W hW => hmr.keep hW hwf
          have HLL : Hid (m.L = (m.l : Int)) := hok.L_eq
          clear hmx hcl
          go_wp2_with fail
          refine region_S (fun W => MAt W w.heap.size 0 m) [] 13 rfl HMX.out (hmr.drewN 1) (fun hU => ?_)
          obtain ⟨W, hW⟩ : ∃ W, W = wr.drew := ⟨_, rfl⟩
          have hBW : Below wr.heap.size wr W := by rw [hW]; exact (Below.refl _ wr).drew
          rw [← hW] at hU ⊢
          clear hW hmr
          (refine AnyS.takeS (i := 0) rfl (by kernel_rfl) (by kernel_rfl) (by kernel_rfl) (by rfl) (by kernel_rfl) (by kernel_rfl) (fun _ _ _ h => h) (by rfl) (fun W hW => run_ld Try.underlying44 rfl HIM.out (.tmp 3) rfl rfl hW) hU (fun hU => ?_); (try simp only [Act.put, List.setIfInBounds_toArray, List.set_cons_zero, List.set_cons_succ]))
          (refine AnyS.take (i := 1) rfl (by kernel_rfl) (by kernel_rfl) (by kernel_rfl) (by rfl) (fun _ _ _ h => h) (by rfl) (by intro w; go_simp; with_reducible rfl) hU (fun hU => ?_); (try simp only [Act.put, List.setIfInBounds_toArray, List.set_cons_zero, List.set_cons_succ]); refine AnyS.take (i := 2) rfl (by kernel_rfl) (by kernel_rfl) (by kernel_rfl) (by rfl) (fun _ _ _ h => h) (by rfl) (by intro w; go_simp; with_reducible rfl) hU (fun hU => ?_); (try simp only [Act.put, List.setIfInBounds_toArray, List.set_cons_zero, List.set_cons_succ]))
          (refine AnyS.takeS (i := 3) rfl (by kernel_rfl) (by kernel_rfl) (by kernel_rfl) (by rfl) (by kernel_rfl) (by kernel_rfl) (fun _ _ _ h => h) (by rfl) (by intro W hSw; have hl := hSw.l; rw [HLL.out] at hl; go_simp; with_reducible rfl) hU (fun hU => ?_); (try simp only [Act.put, List.setIfInBounds_toArray, List.set_cons_zero, List.set_cons_succ]))
          (refine AnyS.take (i := 4) rfl (by kernel_rfl) (by kernel_rfl) (by kernel_rfl) (by rfl) (fun _ _ _ h => h) (by rfl) (by intro w; go_simp; with_reducible rfl) hU (fun hU => ?_); (try simp only [Act.put, List.setIfInBounds_toArray, List.set_cons_zero, List.set_cons_succ]); refine AnyS.take (i := 5) rfl (by kernel_rfl) (by kernel_rfl) (by kernel_rfl) (by rfl) (fun _ _ _ h => h) (by rfl) (by intro w; go_simp; with_reducible rfl) hU (fun hU => ?_); (try simp only [Act.put, List.setIfInBounds_toArray, List.set_cons_zero, List.set_cons_succ]))
          refine AnyS.branch (rs := [6]) (by kernel_rfl) (by simp) (AllS.cons rfl (fun K hK => ?_) AllS.nil)
          go_simp
          refine (HWO.out x _ (by omega)).mono ?_
          rintro e w4 ⟨rfl, hb4⟩
          have hB4 := hBW.trans (hb4.mono hBW.size)
          refine hK.out _ _ (.inl (HS.out _ hB4)) (fun hU => ?_)
          clear hK K hBW
          (try simp only [Act.put, List.setIfInBounds_toArray, List.set_cons_zero, List.set_cons_succ])
          refine AnyS.branch (rs := [7]) (by kernel_rfl) (by simp) (AllS.cons rfl (fun K hK => ?_) AllS.nil)
          go_simp
          refine (HACT.out _).mono ?_
          rintro e w5 ⟨rfl, hb5⟩
          have hB5 := hB4.trans (hb5.mono hB4.size)
          refine hK.out _ _ (.inl (HS.out _ hB5)) (fun hU => ?_)
          clear hK K hB4
          (try simp only [Act.put, List.setIfInBounds_toArray, List.set_cons_zero, List.set_cons_succ])
          rw [HWS.out]
          have hM5 := hM.call hB5
          have hr0 := wsec_lt hok hwf hk j x
          have b1 := (hM5.at 0 rfl).cell' (nvs_get cl (q := wsec m j k x) (by omega))
          have b2 := (hM5.at 0 rfl).cell' (nvs_get cl (q := k) (by omega))
          rw [HCL.out _ hr0] at b1
          rw [HCL.out _ hk] at b2
          have HPX : Hid (rwP m j k x = (m.tbl.fin (wsec m j k x) == m.tbl.fin k)) := rfl
          have HSU := Lib.hid (whereL_succ (rwP m j k) x)
          have hwl := whereL_len (rwP m j k) x
          have hil : (i64s (whereL (rwP m j k) x)).length ≤ 1000000 := by simp only [i64s, List.length_map]; omega
          clear hM
          generalize (runL m k (lts (txt (digs m.l j x)))).1 = o1 at *
          generalize wsec m j k x = r at *
          generalize m.tbl.fin r = u at *
          generalize m.tbl.fin k = v at *
          (refine AnyS.take (i := 8) rfl (by kernel_rfl) (by kernel_rfl) (by kernel_rfl) (by rfl) (fun _ _ _ h => h) (by rfl) (by intro w; go_simp; with_reducible rfl) hU (fun hU => ?_); (try simp only [Act.put, List.setIfInBounds_toArray, List.set_cons_zero, List.set_cons_succ]); refine AnyS.take (i := 9) rfl (by kernel_rfl) (by kernel_rfl) (by kernel_rfl) (by rfl) (fun _ _ _ h => h) (by rfl) (by intro w; go_simp; with_reducible rfl) hU (fun hU => ?_); (try simp only [Act.put, List.setIfInBounds_toArray, List.set_cons_zero, List.set_cons_succ]); refine AnyS.take (i := 10) rfl (by kernel_rfl) (by kernel_rfl) (by kernel_rfl) (by rfl) (fun _ _ _ h => h) (by rfl) (by intro w; go_simp; with_reducible rfl) hU (fun hU => ?_); (try simp only [Act.put, List.setIfInBounds_toArray, List.set_cons_zero, List.set_cons_succ]))
          refine AnyS.branch (rs := [11]) (by kernel_rfl) (by simp) (AllS.cons rfl (fun K hK => ?_) AllS.nil)
          go_simp
          refine hK.out _ _ (.inl (HS.out _ hB5)) (fun hU => ?_)
          clear hK K
          (try simp only [Act.put, List.setIfInBounds_toArray, List.set_cons_zero, List.set_cons_succ])
          refine AnyS.branch (rs := [12]) (by kernel_rfl) (by simp) (AllS.cons rfl (fun K hK => ?_) AllS.nil)
          go_simp
          refine hK.out _ _ (.inl (HS.out _ hB5)) (fun hU => ?_)
          clear hK K
          (try simp only [Act.put, List.setIfInBounds_toArray, List.set_cons_zero, List.set_cons_succ])
          refine AnyS.done (by kernel_rfl) ?_ _
          have i3 : (0 : Int) ≤ (r : Int) := by omega
          have i4 : (r : Int) < 16 := by omega
          have i5 : (0 : Int) ≤ (k : Int) := by omega
          have i6 : (k : Int) < 16 := by omega
          clear hU hB5
          by_cases e : u = v
          · have HP1 : Hid (rwP m j k x = true) := by show _ = _; rw [HPX.out, e]; simp
            rw [HP1.out] at HSU
            simp only [if_true] at HSU
            subst e
            go_wp2_with fail
            go_quiet (fail)
            go_wp2_with (at_builtin; refine Mm.append rfl (.tmp 59) (.tmp 61) 39 rfl (hM5.drewN _) 0 rfl Try.underlying39 hi hz0 hz1 hz2 rfl rfl rfl rfl (by omega) (by omega) ?_)
            intro g' cap' w3 hM3
            have HM3 : Hid (Mm w2.heap.size w2 w3 [(w2.heap.size + 1, nvs 16 cl, 99)] [(.slice (some ⟨g', 0, none⟩) ((i64s (whereL (rwP m j k) x)).length + 1) cap', 2, i64s (whereL (rwP m j k) (x + 1)))]) := by
              rw [HSU.out]; show Mm _ _ _ _ _; simpa [i64s] using hM3
            clear hM5 hM3
            go_wp2_with fail
            go_roundw
            case rel => exact ⟨x + 1, by omega, by go_num, HM3.out⟩
            case measure => simp [intOf] <;> omega
          · have HP1 : Hid (rwP m j k x = false) := by show _ = _; rw [HPX.out]; simp [e]
            rw [HP1.out] at HSU
            simp only [Bool.false_eq_true, if_false, List.append_nil] at HSU
            have e' : ((u : Int) == (v : Int)) = false := by simp; omega
            rw [← HSU.out] at hM5
            clear e
            go_wp2_with fail
            go_quiet (fail)
            go_wp2_with fail
            go_roundw
            case rel => exact ⟨x + 1, by omega, by go_num, hM5.drewN _⟩
            case measure => simp [intOf] <;> omega
        · have hk' : x = P := by omega
          subst hk'
          have i1 : ¬ (x : Int) < (x : Int) := by omega
          go_wp2_with fail
          refine (HPOW.out _).mono ?_
          rintro e w' ⟨rfl, rfl⟩
          have hb := hbb2.trans (hM.below.mono hbb2.size)
          have ho : Hid (OwnI wr w2.heap.size u10 (whereL (rwP m j k) x)) := by
            have := hM.own _ (List.mem_cons_self ..)
            show World.ownsRow _ _ _ _ _ _ _
            simpa [i64s] using this
          clear hM hmr hcl
          go_wp2_with fail
          go_ret2
          rw [HL.out, HRW.out]
          exact ⟨_, rfl, hb, ho.out.less hbb2.size⟩
  · have HRW : Hid (rwC m q n = levC m n) := by show _ = _; rw [rwC, if_neg c0]
    have HL : Hid (rwL m q n = []) := by show _ = _; rw [rwL, if_neg (by rw [HRW.out]; exact c0)]
    have c1 : (levC m n != 0) = true := by simpa using c0
    have c2 : (levC m n == 0) = false := by simpa using c0
    clear c0
    generalize hc : levC m n = c at *
    clear hc
    go_wp2_with fail
    go_ret2
    rw [HL.out, HRW.out]
    exact ⟨_, rfl, hbb1, OwnI.nil _ _⟩
end Go.Proofs.Ytmacnofkpdikiaa
