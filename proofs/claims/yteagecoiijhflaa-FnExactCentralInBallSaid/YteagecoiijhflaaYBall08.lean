import Derived.Test.YteagecoiijhflaaYBall07
import Derived.Test.YteagecoiijhflaaYBall04
/- (*table).least. -/
namespace Go.Proofs.Yteagecoiijhflaa
open Go.RowKit
set_option linter.unusedVariables false
set_option linter.unusedSimpArgs false

def finL (t : Tbl) : List Int := (List.range t.n).map fun q => (t.fin q : Int)
theorem finL_len (t : Tbl) : (finL t).length = t.n := by simp [finL]
theorem finL_get (t : Tbl) {q : Nat} (h : q < t.n) : (finL t)[q]?.getD 0 = (t.fin q : Int) := by simp [finL, h]
theorem nvs_i64s (n : Nat) (f : Nat → Nat) : nvs n f = i64s ((List.range n).map fun q => (f q : Int)) := by simp [nvs, i64s]
/-- the first k states done -/
def upV (f : Nat → Nat) (k q : Nat) : Nat := if q < k then f q else 0
theorem upV_set (f : Nat → Nat) (k : Nat) : updN (upV f k) k (f k) = upV f (k + 1) := by
  funext q
  simp only [updN, upV]
  by_cases e : q = k
  · subst e; rw [if_pos rfl, if_pos (by omega)]
  · rw [if_neg e]
    by_cases h : q < k
    · rw [if_pos h, if_pos (by omega)]
    · rw [if_neg h, if_neg (by omega)]
theorem upV_all (f : Nat → Nat) (n : Nat) : nvs n (upV f n) = nvs n f := nvs_congr fun q hq => by simp [upV, hq]
theorem tot_cls_le (t : Tbl) (k n : Nat) : tot (t.cls k) n ≤ n * n := by
  have : ∀ j, j ≤ n → tot (t.cls k) j ≤ j * n := by
    intro j
    induction j with
    | zero => intro _; simp [tot]
    | succ j ih =>
      intro h
      have := ih (by omega)
      have := t.cls_le k j
      simp only [tot]
      rw [Nat.add_mul]; omega
  exact this n (Nat.le_refl _)
theorem tot_le_tot {f g : Nat → Nat} : ∀ n, (∀ q, q < n → f q ≤ g q) → tot f n ≤ tot g n
  | 0, _ => Nat.le_refl _
  | n + 1, h => by have := tot_le_tot n (fun q hq => h q (by omega)); have := h n (by omega); simp only [tot]; omega
theorem tot_lt_tot {f g : Nat → Nat} : ∀ n, (∀ q, q < n → f q ≤ g q) → (∃ q, q < n ∧ f q ≠ g q) → tot f n < tot g n
  | 0, _, ⟨q, hq, _⟩ => by omega
  | n + 1, h, ⟨q, hq, hne⟩ => by
    have h1 := h n (by omega)
    simp only [tot]
    by_cases e : q = n
    · subst e
      have := tot_le_tot q (fun p hp => h p (by omega))
      omega
    · have := tot_lt_tot n (fun p hp => h p (by omega)) ⟨q, by omega, hne⟩
      omega
theorem cls_same {t : Tbl} {k : Nat} (h : ((List.range t.n).all fun i => t.cls (k + 1) i == t.cls k i) = true) : t.St k := fun q hq => by
  rw [List.all_eq_true] at h
  simpa using h q (by simpa using hq)
theorem cls_differ {t : Tbl} {k : Nat} (h : ((List.range t.n).all fun i => t.cls (k + 1) i == t.cls k i) = false) : tot (t.cls k) t.n < tot (t.cls (k + 1)) t.n := by
  rw [List.all_eq_false] at h
  obtain ⟨q, hq, hne⟩ := h
  refine tot_lt_tot t.n (fun q _ => t.cls_mono k q) ⟨q, by simpa using hq, fun e => hne (by simp [e])⟩
theorem cls1_idx (t : Tbl) {q : Nat} (hq : q < t.n) : idxN (t.eqv 1 q) t.n = (t.cls 1 q : Int) :=
  idxN_hit (by have := t.cls_le 1 q; omega) (t.cls_eqv 1 q) (fun j hj => lst_min hj)

set_option maxRecDepth 100000 in
set_option maxHeartbeats 4000000 in
theorem least_any (t : Tbl) (hw : t.Wf) (hn : t.n ≤ 1000) (hd : t.d ≤ 100) (hn1 : 1 ≤ t.n) (T : Nat) (w : World) (hT : TabG w T t) :
    Calls Try.prog 106 #[.pointer (some ⟨T, 0, none⟩)] w fun e w' => ∃ v, e = .returned v ∧ Below w.heap.size w w' ∧ OwnI w' w.heap.size v (finL t) := by
  have hmf : ∀ (fn : Fn) (first cap : Array Value) (w : World), (Instr.makeFunc fn first cap).run Try.prog w = .ok (.func fn first cap) w := fun _ _ _ _ => rfl
  have HT := Lib.hid hT
  have hTw := hT.lt
  obtain ⟨gN, cN, gO, cO, t1, t2, t3, t4⟩ := id hT
  have hM0 := ((Mm.start w).alloc #[.pointer (some ⟨T, 0, none⟩)] 126).alloc (madeCells #[.int .i64 0] t.n) 2
  rw [show (w.alloc (.cells #[.pointer (some ⟨T, 0, none⟩)] 126)).heap.size = w.heap.size + 1 by simp, made_i64, show (nvs t.n fun _ => 0) = nvs t.n (upV (t.cls 1) 0) from nvs_congr fun q _ => by simp [upV]] at hM0
  have hmk := mk_i64 t.n (by omega) (w.alloc (.cells #[.pointer (some ⟨T, 0, none⟩)] 126))
  have T2 := Lib.hid t2
  have T4 := Lib.hid t4
  have hTO : T < w.heap.size := hTw
  clear hT t1 t3 t4
  go_enter Try.func106, Try.ntmps106
  go_wp2_with fail
  clear hmk t2
  go_loopw [19] (fun i wr => ∃ q : Nat, q ≤ t.n ∧ i = .int .i64 q ∧ Mm w.heap.size w wr [(w.heap.size + 1, nvs t.n (upV (t.cls 1) q), 2), (w.heap.size, [.pointer (some ⟨T, 0, none⟩)], 126)] []) (fun i _ => t.n - (intOf i).toNat)
  case atStart => exact ⟨0, Nat.zero_le _, rfl, hM0⟩
  case round =>
    clear hM0
    obtain ⟨q, hq, rfl, hM⟩ := hrel
    by_cases hlt : q < t.n
    · have hMa := hM.alloc #[.int .i64 (q : Int)] 3
      obtain ⟨wa, hwa⟩ : ∃ wa, wa = wr.alloc (.cells #[.int .i64 (q : Int)] 3) := ⟨_, rfl⟩
      obtain ⟨bq, hbq⟩ : ∃ bq, bq = wr.heap.size := ⟨_, rfl⟩
      rw [← hwa, ← hbq] at hMa
      have i1 : (0 : Int) ≤ (q : Int) := by omega
      have i2 : (q : Int) < (t.n : Int) := by omega
      have HS : Hid (∀ W cs, Mm w.heap.size w W [(bq, [.int .i64 (q : Int)], 3), (w.heap.size + 1, cs, 2), (w.heap.size, [.pointer (some ⟨T, 0, none⟩)], 126)] [] → (W.cell? ⟨bq, 0, none⟩ = some (.int .i64 (q : Int)) ∧ W.cell? ⟨w.heap.size, 0, none⟩ = some (.pointer (some ⟨T, 0, none⟩)) ∧ W.cell? ⟨T, 1, none⟩ = some (.slice (some ⟨gO, 0, none⟩) t.n cO))) := fun W cs h =>
        ⟨(h.at 0 rfl).cell' rfl, (h.at 2 rfl).cell' rfl, (h.below.cell (p := ⟨T, 1, none⟩) hTO).trans T2.out⟩
      have HIX : Hid (∀ W cs, Mm w.heap.size w W [(bq, [.int .i64 (q : Int)], 3), (w.heap.size + 1, cs, 2), (w.heap.size, [.pointer (some ⟨T, 0, none⟩)], 126)] [] → Calls Try.prog 125 #[.slice (some ⟨gO, 0, none⟩) t.n cO, .func (.func 134) #[] #[.pointer (some ⟨w.heap.size, 0, none⟩), .pointer (some ⟨bq, 0, none⟩)]] W (RetQ (.int .i64 (t.cls 1 q)) W)) := fun W cs h => by
        have hTW := HT.out.keep h.below
        have := indexFuncII_any 134 enters_least1 #[.pointer (some ⟨w.heap.size, 0, none⟩), .pointer (some ⟨bq, 0, none⟩)] gO t.n cO (by omega) (fun i => (W.cell? ⟨gO, i, none⟩).getD undef) (t.eqv 1 q) W
          (fun i hi => by
            obtain ⟨g, c, e, f⟩ := T4.out i hi
            have e' := (h.below.cell (p := ⟨gO, i, none⟩) (World.block_lt_of_cell? w _ e)).trans e
            rw [e']; rfl)
          (fun j i hi => by
            obtain ⟨g, c, e, f⟩ := T4.out i hi
            have e' := (h.below.cell (p := ⟨gO, i, none⟩) (World.block_lt_of_cell? w _ e)).trans e
            simp only [e', Option.getD_some]
            have hs := HS.out W cs h
            exact least1_any t hn hd T w.heap.size bq g c i q hlt (W.drewN j) hTW hs.2.1 hs.1 (fun x hx => (h.below.cell (p := ⟨g, x, none⟩) (World.block_lt_of_cell? w _ (f x hx))).trans (f x hx)))
        rwa [cls1_idx t hlt] at this
      have hmx : Try.prog.follows .mixedOrders = true := by kernel_rfl
      have HMX := Lib.hid hmx
      have HWA := Lib.hid hwa
      have HBQ := Lib.hid hbq
      clear hmx hM hbq hwa
      go_wp2_with fail
      rw [← HWA.out, ← HBQ.out]
      refine region_S (fun W => W.cell? ⟨bq, 0, none⟩ = some (.int .i64 (q : Int)) ∧ W.cell? ⟨w.heap.size, 0, none⟩ = some (.pointer (some ⟨T, 0, none⟩)) ∧ W.cell? ⟨T, 1, none⟩ = some (.slice (some ⟨gO, 0, none⟩) t.n cO)) [] 10 rfl HMX.out (HS.out _ _ hMa.drew) (fun hU => ?_)
      have hMW := hMa.drew
      obtain ⟨W, hW⟩ : ∃ W, W = wa.drew := ⟨_, rfl⟩
      rw [← hW] at hU hMW ⊢
      clear hW hMa
      (refine AnyS.take (i := 0) rfl (by kernel_rfl) (by kernel_rfl) (by kernel_rfl) (by rfl) (fun _ _ _ h => h) (by rfl) (by intro w; go_simp; with_reducible rfl) hU (fun hU => ?_); (try simp only [Act.put, List.setIfInBounds_toArray, List.set_cons_zero, List.set_cons_succ]))
      (refine AnyS.takeS (i := 1) rfl (by kernel_rfl) (by kernel_rfl) (by kernel_rfl) (by rfl) (by kernel_rfl) (by kernel_rfl) (fun _ _ _ h => h) (by rfl) (by intro W hSw; have h1 := hSw.1; clear hSw; go_simp; with_reducible rfl) hU (fun hU => ?_); (try simp only [Act.put, List.setIfInBounds_toArray, List.set_cons_zero, List.set_cons_succ]))
      (refine AnyS.takeS (i := 2) rfl (by kernel_rfl) (by kernel_rfl) (by kernel_rfl) (by rfl) (by kernel_rfl) (by kernel_rfl) (fun _ _ _ h => h) (by rfl) (by intro W hSw; have h1 := hSw.2.1; clear hSw; go_simp; with_reducible rfl) hU (fun hU => ?_); (try simp only [Act.put, List.setIfInBounds_toArray, List.set_cons_zero, List.set_cons_succ]))
      (refine AnyS.take (i := 3) rfl (by kernel_rfl) (by kernel_rfl) (by kernel_rfl) (by rfl) (fun _ _ _ h => h) (by rfl) (by intro w; go_simp; with_reducible rfl) hU (fun hU => ?_); (try simp only [Act.put, List.setIfInBounds_toArray, List.set_cons_zero, List.set_cons_succ]); refine AnyS.take (i := 4) rfl (by kernel_rfl) (by kernel_rfl) (by kernel_rfl) (by rfl) (fun _ _ _ h => h) (by rfl) (by intro w; go_simp; with_reducible rfl) hU (fun hU => ?_); (try simp only [Act.put, List.setIfInBounds_toArray, List.set_cons_zero, List.set_cons_succ]))
      (refine AnyS.takeS (i := 5) rfl (by kernel_rfl) (by kernel_rfl) (by kernel_rfl) (by rfl) (by kernel_rfl) (by kernel_rfl) (fun _ _ _ h => h) (by rfl) (by intro W hSw; have h1 := hSw.2.2; clear hSw; go_simp; with_reducible rfl) hU (fun hU => ?_); (try simp only [Act.put, List.setIfInBounds_toArray, List.set_cons_zero, List.set_cons_succ]))
      (refine AnyS.take (i := 6) rfl (by kernel_rfl) (by kernel_rfl) (by kernel_rfl) (by rfl) (fun _ _ _ h => h) (by rfl) (by intro w; go_simp; with_reducible rfl) hU (fun hU => ?_); (try simp only [Act.put, List.setIfInBounds_toArray, List.set_cons_zero, List.set_cons_succ]))
      refine AnyS.branch (rs := [7]) (by kernel_rfl) (by simp) (AllS.cons rfl (fun K hK => ?_) AllS.nil)
      go_simp
      refine (HIX.out _ _ hMW).mono ?_
      rintro e w4 ⟨rfl, a4, rfl⟩
      have hM4 := hMW.drewN a4
      refine hK.out _ _ (.inl (HS.out _ _ hM4)) (fun hU => ?_)
      clear hK K
      (try simp only [Act.put, List.setIfInBounds_toArray, List.set_cons_zero, List.set_cons_succ])
      (refine AnyS.take (i := 8) rfl (by kernel_rfl) (by kernel_rfl) (by kernel_rfl) (by rfl) (fun _ _ _ h => h) (by rfl) (by intro w; go_simp; with_reducible rfl) hU (fun hU => ?_); (try simp only [Act.put, List.setIfInBounds_toArray, List.set_cons_zero, List.set_cons_succ]))
      refine AnyS.branch (rs := [9]) (by kernel_rfl) (by simp) (AllS.cons rfl (fun K hK => ?_) AllS.nil)
      have c2 := (hM4.at 1 rfl).cell' (nvs_get (upV (t.cls 1) q) hlt)
      have f2 := (hM4.at 1 rfl).free q
      have hM5 := hM4.setCell 1 rfl q (.int .i64 (t.cls 1 q : Int))
      simp only [List.set_cons_zero, List.set_cons_succ] at hM5
      rw [nvs_set _ _ hlt, upV_set] at hM5
      have HM5 := Lib.hid hM5
      clear hM5 hMW hM4
      go_simp
      refine hK.out _ _ (.inl (HS.out _ _ HM5.out)) (fun hU => ?_)
      clear hK K c2 f2
      (try simp only [Act.put, List.setIfInBounds_toArray, List.set_cons_zero, List.set_cons_succ])
      refine AnyS.done (by kernel_rfl) ?_ _
      clear hU
      have HM6 := Lib.hid (HM5.out.sub (List.sublist_cons_self _ _))
      clear HM5
      go_wp2_with fail
      go_roundw
      case rel => exact ⟨q + 1, by omega, by go_num, HM6.out⟩
      case measure => simp [intOf] <;> omega
    · have hq' : q = t.n := by omega
      subst hq'
      rw [upV_all] at hM
      go_wp2_with fail
      go_loopg [3] (t.n * t.n) (fun gk v3 wr => ∃ k A : Nat, 1 ≤ k ∧ v3 = .slice (some ⟨A, 0, none⟩) t.n t.n ∧ Mm w.heap.size w wr [(A, nvs t.n (t.cls k), 2), (w.heap.size, [.pointer (some ⟨T, 0, none⟩)], 126)] [] ∧ Hid (t.n * t.n ≤ gk + tot (t.cls k) t.n))
      case atStart => exact ⟨1, _, Nat.le_refl _, rfl, hM, Nat.le_add_right _ _⟩
      case round =>
        clear hM
        obtain ⟨k, A, hk, rfl, hM, HG⟩ := hrel
        have hmk := mk_i64 t.n (by omega) wr
        have hM1 := hM.alloc (madeCells #[.int .i64 0] t.n) 2
        rw [made_i64, show (nvs t.n fun _ => 0) = nvs t.n (upV (t.cls (k + 1)) 0) from nvs_congr fun q _ => by simp [upV]] at hM1
        obtain ⟨A2, hA2⟩ : ∃ A2, A2 = wr.heap.size := ⟨_, rfl⟩
        rw [← hA2] at hM1
        have HA2 := Lib.hid hA2
        clear hM hA2
        go_wp2_with fail
        rw [← HA2.out]
        clear hmk
        go_loopw [6, 37] (fun s6 i wi => ∃ q : Nat, q ≤ t.n ∧ i = .int .i64 q ∧ s6 = .bool ((List.range q).all fun i => t.cls (k + 1) i == t.cls k i) ∧ Mm w.heap.size w wi [(A2, nvs t.n (upV (t.cls (k + 1)) q), 2), (A, nvs t.n (t.cls k), 2), (w.heap.size, [.pointer (some ⟨T, 0, none⟩)], 126)] []) (fun _ i _ => t.n - (intOf i).toNat)
        case atStart => exact ⟨0, Nat.zero_le _, rfl, rfl, hM1⟩
        case round =>
          clear hM1 HA2
          obtain ⟨q, hq, rfl, rfl, hM⟩ := hrel
          by_cases hqlt : q < t.n
          · have i1 : (0 : Int) ≤ (q : Int) := by omega
            have i2 : (q : Int) < (t.n : Int) := by omega
            have c1 := (hM.at 2 rfl).cell' (i := 0) rfl
            have c2 := (hM.at 0 rfl).cell' (nvs_get (upV (t.cls (k + 1)) q) hqlt)
            have f2 := (hM.at 0 rfl).free q
            have HLK : Hid (Calls Try.prog 136 #[.pointer (some ⟨T, 0, none⟩), .slice (some ⟨A, 0, none⟩) t.n t.n, .int .i64 q] wr (RetQ (.int .i64 (t.cls (k + 1) q)) wr)) :=
              like_any t hw hn hd T k hk (t.cls k) (fun _ _ => rfl) A q hqlt wr (HT.out.keep hM.below) (fun q hq => (hM.at 1 rfl).cell' (nvs_get (t.cls k) hq))
            have HX := Lib.hid (allUpto_succ (fun i => t.cls (k + 1) i == t.cls k i) q)
            generalize upV (t.cls (k + 1)) q q = old at *
            go_wp2_with fail
            refine HLK.out.mono ?_
            rintro e w1 ⟨rfl, a1, rfl⟩
            have hM1 := (hM.drewN a1).setCell 0 rfl q (.int .i64 (t.cls (k + 1) q : Int))
            simp only [List.set_cons_zero, List.set_cons_succ] at hM1
            rw [nvs_set _ _ hqlt, upV_set] at hM1
            have c3 := (hM1.at 0 rfl).cell' (nvs_get (upV (t.cls (k + 1)) (q + 1)) hqlt)
            rw [show upV (t.cls (k + 1)) (q + 1) q = t.cls (k + 1) q by simp [upV]] at c3
            have c4 := (hM1.at 1 rfl).cell' (nvs_get (t.cls k) hqlt)
            have HM1 := Lib.hid hM1
            clear hM hM1 HLK
            obtain ⟨u, hu⟩ : ∃ u, u = t.cls (k + 1) q := ⟨_, rfl⟩
            obtain ⟨v, hv⟩ : ∃ v, v = t.cls k q := ⟨_, rfl⟩
            rw [← hu] at c3 c4 HM1 HX
            rw [← hv] at c4 HX
            rw [← hu]
            have HU := Lib.hid hu
            have HV := Lib.hid hv
            clear hu hv c1
            have HY : Hid (((u : Int) == (v : Int)) = (u == v)) := by show _ = _; rw [Bool.eq_iff_iff]; simp; omega
            cases hs : (List.range q).all fun i => t.cls (k + 1) i == t.cls k i
            · rw [hs] at HX
              clear hs
              go_wp2_with fail
              go_quiet (fail)
              go_wp2_with fail
              go_roundw
              case rel => exact ⟨q + 1, by omega, by go_num, by rw [HX.out]; rfl, HM1.out.drewN _⟩
              case measure => simp [intOf] <;> omega
            · rw [hs] at HX
              clear hs
              go_wp2_with fail
              go_quiet (fail)
              go_wp2_with fail
              go_roundw
              case rel => exact ⟨q + 1, by omega, by go_num, by rw [HX.out, HY.out]; simp, HM1.out.drewN _⟩
              case measure => simp [intOf] <;> omega
          · have hq' : q = t.n := by omega
            subst hq'
            cases hs : (List.range t.n).all fun i => t.cls (k + 1) i == t.cls k i
            · have hd' := cls_differ hs
              have hle := tot_cls_le t (k + 1) t.n
              rw [upV_all] at hM
              have hM2 : Mm w.heap.size w wr [(A2, nvs t.n (t.cls (k + 1)), 2), (w.heap.size, [.pointer (some ⟨T, 0, none⟩)], 126)] [] := hM.sub (by apply List.Sublist.cons_cons; apply List.Sublist.cons; exact List.Sublist.refl _)
              have HG2 : Hid (t.n * t.n ≤ (gk - 1) + tot (t.cls (k + 1)) t.n ∧ gk - 1 < gk) := by have := HG.out; show _ ∧ _; omega
              clear hs hM hd' hle HG
              go_wp2_with fail
              go_roundg (gk - 1)
              case measure => exact HG2.out.2
              case rel => exact ⟨k + 1, A2, by omega, rfl, hM2, HG2.out.1⟩
            · have hst := cls_same hs
              have HFIN : Hid (nvs t.n (t.cls k) = i64s (finL t)) := by
                show _ = _
                rw [nvs_i64s, finL]
                congr 1
                exact List.map_congr_left fun q hq => by rw [t.fin_st hw hn1 hst (by simpa using hq)]
              have hM2 : Mm w.heap.size w wr [(A, nvs t.n (t.cls k), 2), (w.heap.size, [.pointer (some ⟨T, 0, none⟩)], 126)] [] := hM.sub (List.sublist_cons_self _ _)
              have hF := (hM2.addOwn (List.mem_cons_self ..) t.n (by simp [nvs_len]) (by omega))
              have hO := hF.own _ (List.mem_cons_self ..)
              rw [HFIN.out] at hO
              have HO : Hid (OwnI wr w.heap.size (.slice (some ⟨A, 0, none⟩) t.n t.n) (finL t)) := by
                show World.ownsRow _ _ _ _ _ _ _
                simpa [i64s] using hO
              have hbl := hM2.below
              clear hs hM hM2 hF hO hst
              go_wp2_with fail
              go_ret
              exact ⟨_, rfl, hbl, HO.out⟩
end Go.Proofs.Yteagecoiijhflaa

/- A group behind its pointer; newGroup. -/
namespace Go.Proofs.Yteagecoiijhflaa
open Go.RowKit
set_option linter.unusedVariables false
set_option linter.unusedSimpArgs false

/-- a group lies at block G -/
structure GrpR (w : World) (G : Nat) (m : Mch) : Prop where
  mach : MAt w G 0 m
  back : MAt w G 98 (invM m)
  cls : ∃ g c, w.cell? ⟨G, 196, none⟩ = some (.slice (some ⟨g, 0, none⟩) m.s c) ∧ ∀ q, q < m.s → w.cell? ⟨g, q, none⟩ = some (.int .i64 (m.tbl.fin q))
  trv : ∃ g c, w.cell? ⟨G, 197, none⟩ = some (.slice (some ⟨g, 0, none⟩) m.s c) ∧ ∀ q, q < m.s → w.cell? ⟨g, q, none⟩ = some (.bool (trivB m q))
theorem GrpR.keep {w w' : World} {G : Nat} {m : Mch} (h : GrpR w G m) (hb : Below w.heap.size w w') : GrpR w' G m := by
  have K : ∀ (a : Addr) (v : Value), w.cell? a = some v → w'.cell? a = some v := fun a v h => (hb.cell (World.block_lt_of_cell? w a h)).trans h
  have hG : G < w.heap.size := World.block_lt_of_cell? w _ h.mach.l
  obtain ⟨h1, h2, ⟨g, c, h3, h4⟩, ⟨g', c', h5, h6⟩⟩ := h
  exact ⟨h1.below hb hG, h2.below hb hG, ⟨g, c, K _ _ h3, fun q hq => K _ _ (h4 q hq)⟩, ⟨g', c', K _ _ h5, fun q hq => K _ _ (h6 q hq)⟩⟩
/-! structs of several wide parts -/
theorem fold_splice (off : Nat) : ∀ (vs : List Value) (cs : Array Value) (k : Nat), ((vs.zipIdx k).foldl (fun (cs : Array Value) x => cs.setIfInBounds (off + x.2) x.1) cs).toList = splice cs.toList (off + k) vs
  | [], cs, k => rfl
  | v :: r, cs, k => by
    rw [List.zipIdx_cons, List.foldl_cons, fold_splice off r _ (k + 1), splice]
    simp [Nat.add_assoc]
theorem fill_step (place : Nat → Option (Nat × Nat)) (cells : Array Value) (i : Nat) (v : Value) (rest : List (Nat × Value)) (off size : Nat) (hp : place i = some (off, size)) (hs : v.cells.size = size) (hb : off + size ≤ cells.size) :
    Instr.fill place cells ((i, v) :: rest) = Instr.fill place (splice cells.toList off v.cells.toList).toArray rest := by
  rw [Instr.fill, hp]
  simp only
  rw [if_neg (by simp [hs]; omega)]
  congr 1
  rw [← Array.toList_inj]
  have h := fold_splice off v.cells.toList cells 0
  rw [Nat.add_zero] at h
  rw [List.toList_toArray, ← h, ← Array.foldl_toList, Array.toList_zipIdx]
theorem run_bld {t : TypeId} {parts : Array (Nat × Operand)} {cells : Array Value} {a : Act} {op : Oper} {ps : List (Nat × Value)} (ho : op.op = .build t parts) {w : World} (h' : Try.prog.built t ps = some cells) (hp : (parts.toList.map fun x => (x.1, a.eval x.2)) = ps) :
    (execOp a.eval op).run Try.prog w = .ok (.value (.agg cells)) w := by
  have h : Try.prog.built t (parts.map fun (i, x) => (i, a.eval x)).toList = some cells := by rw [Array.toList_map, ← h', ← hp]
  unfold execOp
  simp only [ho]
  simp [run_build w t _ cells h]
/-- a group's cells -/
def gcells (m : Mch) (u v : Value) : List Value := m.cells ++ ((invM m).cells ++ [u, v])
theorem splice_app (pre mid post vs : List Value) (h : vs.length = mid.length) : splice (pre ++ (mid ++ post)) pre.length vs = pre ++ (vs ++ post) := by
  apply List.ext_getElem?
  intro i
  rw [splice_get]
  simp only [List.length_append]
  by_cases c : pre.length ≤ i ∧ i < pre.length + vs.length ∧ i < pre.length + (mid.length + post.length)
  · rw [if_pos c, List.getElem?_append_right c.1, List.getElem?_append_left (by omega)]
  · rw [if_neg c]
    by_cases c1 : i < pre.length
    · rw [List.getElem?_append_left c1, List.getElem?_append_left c1]
    · rw [List.getElem?_append_right (by omega), List.getElem?_append_right (by omega)]
      by_cases c2 : i - pre.length < vs.length
      · exfalso; omega
      · rw [List.getElem?_append_right (by omega), List.getElem?_append_right (by omega), h]
theorem zeroG : Try.zeroCells133.toList = (Value.int .i64 0 :: Value.int .i64 0 :: List.replicate 96 (Value.int .u8 0)) ++ ((Value.int .i64 0 :: Value.int .i64 0 :: List.replicate 96 (Value.int .u8 0)) ++ [Value.slice none 0 0, Value.slice none 0 0]) := by kernel_rfl
theorem infoG : (Try.prog.info? 133).map (·.zero) = some (some (.agg Try.zeroCells133)) := by kernel_rfl
theorem placesG : (match Try.prog.underlying 133 with | some (.struct fields) => fields.toList.mapM (fun f => (Try.prog.info? f.type).map fun i => (f.offset, i.size)) | _ => none) = some [(0, 98), (98, 98), (196, 1), (197, 1)] := by kernel_rfl
theorem builtG {m : Mch} (hwf : m.Wf) (hok : m.Ok) (a b : Option Addr) (n k c d : Nat) :
    Try.prog.built 133 [(0, .agg m.cells.toArray), (1, .agg (invM m).cells.toArray), (2, .slice a n c), (3, .slice b k d)] = some (gcells m (.slice a n c) (.slice b k d)).toArray := by
  have hl1 := Mch.cells_length hwf
  have hl2 := Mch.cells_length (invM_wf hok hwf)
  have hi := infoG
  have hp := placesG
  unfold Program.built
  cases h1 : Try.prog.info? 133 with
  | none => rw [h1] at hi; cases hi
  | some it =>
    rw [h1] at hi
    simp only [Option.map_some, Option.some.injEq] at hi
    cases h2 : Try.prog.underlying 133 with
    | none => rw [h2] at hp; cases hp
    | some td =>
      rw [h2] at hp
      cases td <;> try (cases hp; done)
      rename_i fields
      simp only at hp ⊢
      rw [hi, hp]
      simp only [Value.cells]
      have hz : Try.zeroCells133.size = 198 := by rw [← Array.length_toList, zeroG]; rfl
      have e1 : splice Try.zeroCells133.toList 0 m.cells = m.cells ++ ((Value.int .i64 0 :: Value.int .i64 0 :: List.replicate 96 (Value.int .u8 0)) ++ [Value.slice none 0 0, Value.slice none 0 0]) := by
        rw [zeroG]; exact splice_app [] (Value.int .i64 0 :: Value.int .i64 0 :: List.replicate 96 (Value.int .u8 0)) _ _ (by rw [hl1]; rfl)
      have e2 : splice (m.cells ++ ((Value.int .i64 0 :: Value.int .i64 0 :: List.replicate 96 (Value.int .u8 0)) ++ [Value.slice none 0 0, Value.slice none 0 0])) 98 (invM m).cells = m.cells ++ ((invM m).cells ++ [Value.slice none 0 0, Value.slice none 0 0]) := by
        have := splice_app m.cells (Value.int .i64 0 :: Value.int .i64 0 :: List.replicate 96 (Value.int .u8 0)) [Value.slice none 0 0, Value.slice none 0 0] (invM m).cells (by rw [hl2]; rfl)
        rwa [hl1] at this
      have e3 : splice (m.cells ++ ((invM m).cells ++ [Value.slice none 0 0, Value.slice none 0 0])) 196 [Value.slice a n c] = m.cells ++ ((invM m).cells ++ [Value.slice a n c, Value.slice none 0 0]) := by
        have := splice_app (m.cells ++ (invM m).cells) [Value.slice none 0 0] [Value.slice none 0 0] [Value.slice a n c] rfl
        simpa [hl1, hl2] using this
      have e4 : splice (m.cells ++ ((invM m).cells ++ [Value.slice a n c, Value.slice none 0 0])) 197 [Value.slice b k d] = m.cells ++ ((invM m).cells ++ [Value.slice a n c, Value.slice b k d]) := by
        have := splice_app (m.cells ++ ((invM m).cells ++ [Value.slice a n c])) [Value.slice none 0 0] [] [Value.slice b k d] rfl
        simpa [hl1, hl2] using this
      rw [fill_step _ _ 0 _ _ 0 98 rfl (by simp [Value.cells, hl1]) (by rw [hz]; omega)]
      simp only [Value.cells]
      rw [e1, fill_step _ _ 1 _ _ 98 98 rfl (by simp [Value.cells, hl2]) (by simp [hl1])]
      simp only [Value.cells]
      rw [e2, fill_step _ _ 2 _ _ 196 1 rfl rfl (by simp [hl1, hl2])]
      simp only [Value.cells]
      rw [e3, fill_step _ _ 3 _ _ 197 1 rfl rfl (by simp [hl1, hl2])]
      simp only [Value.cells]
      rw [e4]
      rfl

set_option maxRecDepth 100000 in
set_option maxHeartbeats 4000000 in
theorem newGroup_any (m : Mch) (hwf : m.Wf) (hok : m.Ok) (w : World) :
    Calls Try.prog 67 #[.agg m.cells.toArray] w fun e w' => ∃ G, e = .returned (.pointer (some ⟨G, 0, none⟩)) ∧ Below w.heap.size w w' ∧ GrpR w' G m := by
  have h3 := hok.l_le
  have h16 := hok.s_le
  have hm := MAt.boxed w m 29
  have hb0 := boxedBelow w m.cells.toArray 29
  have hmx : Try.prog.follows .mixedOrders = true := by kernel_rfl
  have HMX := Lib.hid hmx
  have HIM := Lib.hid (mach_info hwf)
  clear hmx
  go_enter Try.func67, Try.ntmps67
  go_wp2_with fail
  refine (table_any w.heap.size 0 m hwf hok _ hm).mono ?_
  rintro e w1 ⟨T, rfl, hb1, hT⟩
  have hR := hT.reads hok.s_pos
  have hbb1 := hb0.trans (hb1.mono hb0.size)
  have hm1 := hm.keep hb1 hwf
  have HM1 := Lib.hid hm1
  have HR := Lib.hid hR
  clear hm hT hR hm1
  go_wp2_with fail
  have HSM : Hid (∀ W, Below w1.heap.size w1 W → MAt W w.heap.size 0 m) := fun W hW => HM1.out.keep hW hwf
  refine region_S (fun W => MAt W w.heap.size 0 m) [] 9 rfl HMX.out (HM1.out.drewN 1) (fun hU => ?_)
  obtain ⟨W, hW⟩ : ∃ W, W = w1.drew := ⟨_, rfl⟩
  have hBW : Below w1.heap.size w1 W := by rw [hW]; exact (Below.refl _ w1).drew
  rw [← hW] at hU ⊢
  clear hW
  (refine AnyS.takeS (i := 0) rfl (by kernel_rfl) (by kernel_rfl) (by kernel_rfl) (by rfl) (by kernel_rfl) (by kernel_rfl) (fun _ _ _ h => h) (by rfl) (fun W hW => run_ld Try.underlying29 rfl HIM.out (.tmp 1) rfl rfl hW) hU (fun hU => ?_); (try simp only [Act.put, List.setIfInBounds_toArray, List.set_cons_zero, List.set_cons_succ]))
  (refine AnyS.take (i := 2) rfl (by kernel_rfl) (by kernel_rfl) (by kernel_rfl) (by rfl) (fun _ _ _ h => h) (by rfl) (by intro w; go_simp; with_reducible rfl) hU (fun hU => ?_); (try simp only [Act.put, List.setIfInBounds_toArray, List.set_cons_zero, List.set_cons_succ]); refine AnyS.take (i := 4) rfl (by kernel_rfl) (by kernel_rfl) (by kernel_rfl) (by rfl) (fun _ _ _ h => h) (by rfl) (by intro w; go_simp; with_reducible rfl) hU (fun hU => ?_); (try simp only [Act.put, List.setIfInBounds_toArray, List.set_cons_zero, List.set_cons_succ]))
  refine AnyS.branch (rs := [1]) (by kernel_rfl) (by simp) (AllS.cons rfl (fun K hK => ?_) AllS.nil)
  go_simp
  refine (inverse_any w.heap.size 0 m hwf hok _ (HSM.out _ hBW)).mono ?_
  rintro e w2 ⟨rfl, hb2⟩
  have hB2 := hBW.trans (hb2.mono hBW.size)
  refine hK.out _ _ (.inl (HSM.out _ hB2)) (fun hU => ?_)
  clear hK K hBW
  (try simp only [Act.put, List.setIfInBounds_toArray, List.set_cons_zero, List.set_cons_succ])
  refine AnyS.branch (rs := [3]) (by kernel_rfl) (by simp) (AllS.cons rfl (fun K hK => ?_) AllS.nil)
  go_simp
  refine (least_any m.tbl (m.tbl_wf hok hwf) (by show m.s ≤ _; omega) (by show m.l ≤ _; omega) hok.s_pos T _ (HR.out.keep hB2).gen).mono ?_
  rintro e w3 ⟨v, rfl, hb3, hO⟩
  have hB3 := hB2.trans (hb3.mono hB2.size)
  obtain ⟨gc, cc, rfl, hgc⟩ : ∃ g c, v = .slice (some ⟨g, 0, none⟩) m.s c ∧ ∀ q, q < m.s → w3.cell? ⟨g, q, none⟩ = some (.int .i64 (m.tbl.fin q)) := by
    have hp : 0 < (finL m.tbl).length := by rw [finL_len]; exact hok.s_pos
    obtain ⟨g, c, e, hlt, hge, hcell⟩ := own_form hO hp
    rw [finL_len] at e
    refine ⟨g, c, e, fun i hi => ?_⟩
    have := hcell i (.int .i64 ((finL m.tbl)[i]?.getD 0)) (i64s_get (by rw [finL_len]; exact hi))
    rwa [finL_get m.tbl hi] at this
  have HGC := Lib.hid hgc
  refine hK.out _ _ (.inl (HSM.out _ hB3)) (fun hU => ?_)
  clear hK K hB2 hO hgc
  (try simp only [Act.put, List.setIfInBounds_toArray, List.set_cons_zero, List.set_cons_succ])
  refine AnyS.branch (rs := [5]) (by kernel_rfl) (by simp) (AllS.cons rfl (fun K hK => ?_) AllS.nil)
  go_simp
  refine (tableTrivial_any T m hwf hok _ (HR.out.keep hB3)).mono ?_
  rintro e w4 ⟨g, rfl, hb4, hB⟩
  have hB4 := hB3.trans (hb4.mono hB3.size)
  have HBT := Lib.hid hB
  have HB4 := Lib.hid hb4
  refine hK.out _ _ (.inl (HSM.out _ hB4)) (fun hU => ?_)
  clear hK K hB3 hB
  (try simp only [Act.put, List.setIfInBounds_toArray, List.set_cons_zero, List.set_cons_succ])
  have HBG := Lib.hid (builtG hwf hok (some ⟨gc, 0, none⟩) (some ⟨g, 0, none⟩) m.s m.s cc m.s)
  refine AnyS.take (i := 6) rfl (by kernel_rfl) (by kernel_rfl) (by kernel_rfl) (by rfl) (fun _ _ _ h => h) (by rfl) (fun w => run_bld rfl HBG.out rfl) hU (fun hU => ?_)
  (try simp only [Act.put, List.setIfInBounds_toArray, List.set_cons_zero, List.set_cons_succ])
  refine AnyS.branch (rs := [7]) (by kernel_rfl) (by simp) (AllS.cons rfl (fun K hK => ?_) AllS.nil)
  go_simp
  refine hK.out _ _ (.inl (HSM.out _ (hB4.alloc hB4.size _))) (fun hU => ?_)
  clear hK K
  (try simp only [Act.put, List.setIfInBounds_toArray, List.set_cons_zero, List.set_cons_succ])
  (refine AnyS.take (i := 8) rfl (by kernel_rfl) (by kernel_rfl) (by kernel_rfl) (by rfl) (fun _ _ _ h => h) (by rfl) (by intro w; go_simp; with_reducible rfl) hU (fun hU => ?_); (try simp only [Act.put, List.setIfInBounds_toArray, List.set_cons_zero, List.set_cons_succ]))
  refine AnyS.done (by kernel_rfl) ?_ _
  clear hU
  have HBB := Lib.hid (hbb1.trans ((hB4.alloc hB4.size (.cells (gcells m (.slice (some ⟨gc, 0, none⟩) m.s cc) (.slice (some ⟨g, 0, none⟩) m.s m.s)).toArray 133)).mono hbb1.size))
  have HGR : Hid (GrpR (w4.alloc (.cells (gcells m (.slice (some ⟨gc, 0, none⟩) m.s cc) (.slice (some ⟨g, 0, none⟩) m.s m.s)).toArray 133)) w4.heap.size m) := by
    have hl1 := Mch.cells_length hwf
    have hl2 := Mch.cells_length (invM_wf hok hwf)
    have hN := Blk.new w4 (gcells m (.slice (some ⟨gc, 0, none⟩) m.s cc) (.slice (some ⟨g, 0, none⟩) m.s m.s)).toArray 133
    have hA : Below w4.heap.size w4 (w4.alloc (.cells (gcells m (.slice (some ⟨gc, 0, none⟩) m.s cc) (.slice (some ⟨g, 0, none⟩) m.s m.s)).toArray 133)) := (Below.refl _ _).alloc (Nat.le_refl _) _
    have K : ∀ {b i : Nat} {v : Value}, w4.cell? ⟨b, i, none⟩ = some v → (w4.alloc (.cells (gcells m (.slice (some ⟨gc, 0, none⟩) m.s cc) (.slice (some ⟨g, 0, none⟩) m.s m.s)).toArray 133)).cell? ⟨b, i, none⟩ = some v := fun h => (hA.cell (World.block_lt_of_cell? w4 _ h)).trans h
    refine ⟨hN.range 0 _ (fun j v hj => ?_), hN.range 98 _ (fun j v hj => ?_), ⟨gc, cc, hN.cell' ?_, fun q hq => ?_⟩, ⟨g, m.s, hN.cell' ?_, fun q hq => ?_⟩⟩
    · have : j < m.cells.length := (List.getElem?_eq_some_iff.1 hj).1
      simp only [gcells, List.toList_toArray, Nat.zero_add]
      rw [List.getElem?_append_left this]; exact hj
    · have : j < (invM m).cells.length := (List.getElem?_eq_some_iff.1 hj).1
      simp only [gcells, List.toList_toArray]
      rw [List.getElem?_append_right (by omega), hl1, show 98 + j - 98 = j by omega, List.getElem?_append_left this]; exact hj
    · simp only [gcells, List.toList_toArray]
      rw [List.getElem?_append_right (by omega), hl1, List.getElem?_append_right (by omega), hl2]; rfl
    · have h1 := HGC.out q hq
      exact K ((HB4.out.cell (p := ⟨gc, q, none⟩) (World.block_lt_of_cell? w3 _ h1)).trans h1)
    · simp only [gcells, List.toList_toArray]
      rw [List.getElem?_append_right (by omega), hl1, List.getElem?_append_right (by omega), hl2]; rfl
    · exact K (HBT.out.cell' (bvs_get (trivB m) hq))
  go_wp2_with fail
  go_ret
  exact ⟨_, rfl, HBB.out, HGR.out⟩
end Go.Proofs.Yteagecoiijhflaa

/- What the laws ask of a result that is a slice of slices of numbers. -/
namespace Go.Proofs.Yteagecoiijhflaa
open Go.RowKit
set_option linter.unusedVariables false
set_option linter.unusedSimpArgs false

section
variable {B : Nat} {w0 w : World} {L : List (Nat × List Value × TypeId)} {G : List (Value × TypeId × List Value)}
/-- a call that writes into the row of the slice number i alone -/
theorem Mm.gcall (h : Mm B w0 w L G) (i : Nat) {v : Value} {E : TypeId} {xs ys : List Value} (hi : G[i]? = some (v, E, xs)) {w' : World} (hg : w.grownBy w' v.ownBlock) {n : Nat} (ho : w'.ownsRow B E 1 v n ys) (hn : n = ys.length) : Mm B w0 w' L (G.set i (v, E, ys)) := by
  subst hn
  have hv := mem_of_get hi
  have hblock : ∀ k, k < w.heap.size → v.ownBlock ≠ some k → w'.heap[k]? = w.heap[k]? := fun k hk hne => hg.block k hk (Ne.symm hne)
  have hsym : ∀ x y : Value × TypeId × List Value, (∀ b, x.1.ownBlock = some b → y.1.ownBlock ≠ some b) → ∀ b, y.1.ownBlock = some b → x.1.ownBlock ≠ some b := fun x y h b e e' => h b e' e
  have hmap : (G.set i (v, E, ys)).map (·.1) = G.map (·.1) := by
    rw [List.map_set]
    apply List.ext_getElem?
    intro k
    by_cases hk : k = i
    · subst hk
      have hlt : k < G.length := (List.getElem?_eq_some_iff.1 hi).1
      rw [List.getElem?_set_self (by simpa using hlt), List.getElem?_map, hi]; rfl
    · rw [List.getElem?_set_ne (Ne.symm hk)]
  refine ⟨?_, Nat.le_trans h.size hg.size, fun x hx => ⟨(h.blk x hx).1, (hblock _ (h.blk x hx).2.lt (h.sep _ hv x hx)).trans (h.blk x hx).2⟩, h.dist, fun x hx => ?_, fun x hx y hy => ?_, ?_⟩
  · refine ⟨hg.os.trans h.below.os, hg.tape.trans h.below.tape, hg.output.trans h.below.output, Nat.le_trans h.below.size hg.size, fun k hk => ?_⟩
    have hkw : k < w.heap.size := Nat.lt_of_lt_of_le hk h.size
    exact (hblock k hkw (fun e => by have := (World.ownsRow.lt (h.own _ hv) k e).1; omega)).trans (h.below.block k hk)
  · rcases mem_set_of hx with rfl | ⟨j, hj, hx⟩
    · exact ho
    · have hx' := h.own x (mem_of_get hx)
      refine ⟨hx'.1, ?_⟩
      rcases hx'.2 with hn | ⟨g', cap', cur, hv', h1, h2, rest⟩
      · exact .inl hn
      · have hlt := h.ownlt (mem_of_get hx) (by rw [hv']; rfl : x.1.ownBlock = some g')
        exact .inr ⟨g', cap', cur, hv', h1, (hblock g' hlt (pairwise_get hsym h.gdist hx hi hj g' (by rw [hv']; rfl))).trans h2, rest⟩
  · rcases mem_set_of hx with rfl | ⟨j, hj, hx⟩
    · exact h.sep _ hv y hy
    · exact h.sep x (mem_of_get hx) y hy
  · have hd : (G.map (·.1)).Pairwise (fun x y => ∀ b, x.ownBlock = some b → y.ownBlock ≠ some b) := List.pairwise_map.2 h.gdist
    rw [← hmap] at hd
    exact List.pairwise_map.1 hd
theorem Mm.permL (h : Mm B w0 w L G) {L' : List (Nat × List Value × TypeId)} (hp : L.Perm L') : Mm B w0 w L' G :=
  ⟨h.below, h.size, fun x hx => h.blk x (hp.mem_iff.2 hx), (hp.pairwise_iff (fun h => Ne.symm h)).1 h.dist, h.own, fun x hx y hy => h.sep x hx y (hp.mem_iff.2 hy), h.gdist⟩
theorem Mm.permG (h : Mm B w0 w L G) {G' : List (Value × TypeId × List Value)} (hp : G.Perm G') : Mm B w0 w L G' :=
  ⟨h.below, h.size, h.blk, h.dist, fun x hx => h.own x (hp.mem_iff.2 hx), fun x hx y hy => h.sep x (hp.mem_iff.2 hx) y hy, (hp.pairwise_iff (fun h b e e' => h b e' e)).1 h.gdist⟩
theorem Mm.subG (h : Mm B w0 w L G) {G' : List (Value × TypeId × List Value)} (hs : G'.Sublist G) : Mm B w0 w L G' :=
  ⟨h.below, h.size, h.blk, h.dist, fun x hx => h.own x (hs.subset hx), fun x hx y hy => h.sep x (hs.subset hx) y hy, h.gdist.sublist hs⟩
/-- the same memory, told from later on -/
theorem Mm.since (h : Mm B w0 w L G) : Mm B w w L G := ⟨Below.refl _ _, h.size, h.blk, h.dist, h.own, h.sep, h.gdist⟩
theorem Mm.less (h : Mm B w0 w L G) {C : Nat} (hC : C ≤ B) : Mm C w0 w L G :=
  ⟨h.below.mono hC, Nat.le_trans hC h.size, fun x hx => ⟨Nat.le_trans hC (h.blk x hx).1, (h.blk x hx).2⟩, h.dist, fun x hx => by
    have ho := h.own x hx
    refine ⟨ho.1, ?_⟩
    rcases ho.2 with hn | ⟨g, cap, cur, hv, h1, rest⟩
    · exact .inl hn
    · exact .inr ⟨g, cap, cur, hv, Nat.le_trans hC h1, rest⟩, h.sep, h.gdist⟩
end

/-- the rows of a slice of slices -/
def rowG (rv : List Value) (rows : List (List Int)) : List (Value × TypeId × List Value) := List.zipWith (fun r xs => (r, 2, i64s xs)) rv rows
/-- v is a slice of slices that reads as rows, all in memory from B on that is its own -/
def OwnII (w : World) (B : Nat) (v : Value) (rows : List (List Int)) : Prop := ∃ rv : List Value, rv.length = rows.length ∧ Mm B w w [] ((v, 26, rv) :: rowG rv rows)
/-- v is a slice of slices that reads as rows -/
def SlII (w : World) (v : Value) (rows : List (List Int)) : Prop := ∃ a c, v = .slice a rows.length c ∧ ∀ i, i < rows.length → ∃ b off, a = some ⟨b, off, none⟩ ∧ ∃ a' c', w.cell? ⟨b, off + i, none⟩ = some (.slice a' (rows[i]?.getD []).length c') ∧ IntsAt w a' (rows[i]?.getD [])
theorem SlII.below {w w' : World} {v : Value} {rows : List (List Int)} (h : SlII w v rows) (hb : Below w.heap.size w w') : SlII w' v rows := by
  obtain ⟨a, c, rfl, h⟩ := h
  refine ⟨a, c, rfl, fun i hi => ?_⟩
  obtain ⟨b, off, ha, a', c', hc, hI⟩ := h i hi
  exact ⟨b, off, ha, a', c', (hb.cell (p := ⟨b, off + i, none⟩) (World.block_lt_of_cell? w _ hc)).trans hc, hI.keep hb⟩
theorem rowG_get {rv : List Value} {rows : List (List Int)} (hl : rv.length = rows.length) {i : Nat} (hi : i < rows.length) : (rowG rv rows)[i]? = some (rv[i]?.getD undef, 2, i64s (rows[i]?.getD [])) := by
  simp only [rowG, List.getElem?_zipWith]
  rw [List.getElem?_eq_getElem (by omega : i < rv.length), List.getElem?_eq_getElem hi]
  rfl
theorem OwnI.of_row {w : World} {B : Nat} {v : Value} {xs : List Int} (h : w.ownsRow B 2 1 v (i64s xs).length (i64s xs)) : OwnI w B v xs := by simpa [OwnI, i64s] using h
theorem OwnII.row {w : World} {B : Nat} {v : Value} {rv : List Value} {rows : List (List Int)} (hl : rv.length = rows.length) (h : Mm B w w [] ((v, 26, rv) :: rowG rv rows)) {i : Nat} (hi : i < rows.length) : OwnI w B (rv[i]?.getD undef) (rows[i]?.getD []) :=
  OwnI.of_row (h.own _ (List.mem_cons_of_mem _ (mem_of_get (rowG_get hl hi))))
theorem OwnII.sl {w : World} {B : Nat} {v : Value} {rows : List (List Int)} (h : OwnII w B v rows) : SlII w v rows := by
  obtain ⟨rv, hl, hM⟩ := h
  have ho := hM.own _ (List.mem_cons_self ..)
  simp only at ho
  rcases ho.2 with ⟨rfl, h0⟩ | ⟨g, cap, cur, rfl, h1, hg, h2, h3, h4, h5⟩
  · exact ⟨none, 0, by rw [← hl, h0], fun i hi => by omega⟩
  · refine ⟨some ⟨g, 0, none⟩, cap, by rw [hl], fun i hi => ⟨g, 0, rfl, ?_⟩⟩
    obtain ⟨a', c', e, hI⟩ := (OwnII.row hl hM hi).form
    refine ⟨a', c', ?_, hI⟩
    rw [Nat.zero_add, World.ownsRow.cellAt ho i (by omega), List.getElem?_eq_getElem (by omega : i < rv.length)]
    rw [List.getElem?_eq_getElem (by omega : i < rv.length)] at e
    exact congrArg some e
theorem OwnII.below {w w' : World} {B : Nat} {v : Value} {rows : List (List Int)} (h : OwnII w B v rows) (hb : Below w.heap.size w w') : OwnII w' B v rows := by
  obtain ⟨rv, hl, hM⟩ := h
  exact ⟨rv, hl, (hM.call hb).since⟩
theorem OwnII.nil (w : World) (B : Nat) (hB : B ≤ w.heap.size) : OwnII w B (.slice none 0 0) [] :=
  ⟨[], rfl, ⟨Below.refl _ _, hB, fun _ h => (by cases h), List.Pairwise.nil, fun x hx => by rw [List.mem_singleton.1 (show x ∈ [_] from hx)]; exact World.ownsRow_nil _ _ _ _, fun _ _ _ h => (by cases h), List.pairwise_singleton _ _⟩⟩

set_option maxHeartbeats 1000000 in
theorem eqIQ_same (a b : Option Addr) (c d : Nat) (xs : List Int) (hx : xs.length ≤ 2000000) (w : World) (ha : IntsAt w a xs) (hb : IntsAt w b xs) :
    Calls Try.prog 20 #[.slice a xs.length c, .slice b xs.length d] w (RetQ (.bool true) w) := by
  have HA := Lib.hid ha
  have HB := Lib.hid hb
  clear ha hb
  go_enter Try.func20, Try.ntmps20
  go_wp2
  go_loopw [5] (fun i wr => ∃ k : Nat, k ≤ xs.length ∧ i = .int .i64 k ∧ Hid (∃ n, wr = w.drewN n)) (fun i _ => xs.length - (intOf i).toNat)
  case atStart => exact ⟨0, Nat.zero_le _, rfl, 0, rfl⟩
  case round =>
    obtain ⟨k, hk, rfl, HW⟩ := hrel
    by_cases hlt : k < xs.length
    · obtain ⟨g, off, rfl, hc⟩ := HA.out k hlt
      obtain ⟨g', off', rfl, hc'⟩ := HB.out k hlt
      have hcell : ∀ a, wr.cell? a = w.cell? a := fun a => by obtain ⟨n, hn⟩ := HW.out; rw [hn]; rfl
      rw [← hcell] at hc hc'
      clear hcell
      have i1 : (0 : Int) ≤ (k : Int) := by omega
      have i2 : (k : Int) < (xs.length : Int) := by omega
      generalize xs[k]?.getD 0 = x at *
      go_wp2
      go_quiet (fail)
      go_wp2
      go_roundw
      case rel => exact ⟨k + 1, by omega, by go_num, by obtain ⟨n, hn⟩ := HW.out; rw [hn]; exact dN2 _ _ _⟩
      case measure => simp [intOf] <;> omega
    · go_wp2
      go_ret
      exact ⟨rfl, HW.out⟩

set_option maxHeartbeats 1000000 in
theorem eqII_same (a b : Value) (rows : List (List Int)) (hn : rows.length ≤ 2000000) (hx : ∀ i : Nat, (rows[i]?.getD []).length ≤ 2000000) (w : World) (ha : SlII w a rows) (hb : SlII w b rows) :
    Calls Try.prog 27 #[a, b] w (RetQ (.bool true) w) := by
  obtain ⟨a, c, rfl, hA⟩ := ha
  obtain ⟨b, d, rfl, hB⟩ := hb
  have HA := Lib.hid hA
  have HB := Lib.hid hB
  have HX := Lib.hid hx
  clear hA hB hx
  go_enter Try.func27, Try.ntmps27
  go_wp2
  go_loopw [5] (fun i wr => ∃ k : Nat, k ≤ rows.length ∧ i = .int .i64 k ∧ Hid (∃ n, wr = w.drewN n)) (fun i _ => rows.length - (intOf i).toNat)
  case atStart => exact ⟨0, Nat.zero_le _, rfl, 0, rfl⟩
  case round =>
    obtain ⟨k, hk, rfl, HW⟩ := hrel
    by_cases hlt : k < rows.length
    · obtain ⟨g, off, rfl, a1, c1, hc, hI⟩ := HA.out k hlt
      obtain ⟨g', off', rfl, a2, c2, hc', hI'⟩ := HB.out k hlt
      have HE : Hid (∀ n, Calls Try.prog 20 #[.slice a1 (rows[k]?.getD []).length c1, .slice a2 (rows[k]?.getD []).length c2] (wr.drewN n) (RetQ (.bool true) (wr.drewN n))) := fun n => by
        obtain ⟨m, hm⟩ := HW.out
        rw [hm]
        exact eqIQ_same a1 a2 c1 c2 _ (HX.out k) _ hI hI'
      have hcell : ∀ a, wr.cell? a = w.cell? a := fun a => by obtain ⟨n, hn⟩ := HW.out; rw [hn]; rfl
      rw [← hcell] at hc hc'
      clear hcell hI hI'
      have i1 : (0 : Int) ≤ (k : Int) := by omega
      have i2 : (k : Int) < (rows.length : Int) := by omega
      generalize (rows[k]?.getD []).length = len at *
      go_wp2_with fail
      go_quiet ((go_at_call 20; exact Calls.quiet_of (HE.out _)))
      go_wp2_with fail
      go_roundw
      case rel => exact ⟨k + 1, by omega, by go_num, by obtain ⟨n, hn⟩ := HW.out; rw [hn]; exact dN2 _ _ _⟩
      case measure => simp [intOf] <;> omega
    · go_wp2_with fail
      go_ret
      exact ⟨rfl, HW.out⟩

/-- how many numbers there are in the first i rows -/
def sumLen (rows : List (List Int)) (i : Nat) : Nat := ((rows.take i).map List.length).sum
theorem sumLen_succ (rows : List (List Int)) (i : Nat) (h : i < rows.length) : sumLen rows (i + 1) = sumLen rows i + (rows[i]?.getD []).length := by
  simp only [sumLen]
  rw [List.take_succ_eq_append_getElem h, List.map_append, List.sum_append, List.getElem?_eq_getElem h]
  simp
theorem sumLen_le (rows : List (List Int)) (i : Nat) : sumLen rows i ≤ sumLen rows rows.length := by
  simp only [sumLen, List.take_length]
  have h := List.take_append_drop i rows
  conv => rhs; rw [← h, List.map_append, List.sum_append]
  omega
/-- the rows marked, from k on: i rows done -/
def mixII (k i : Nat) (rows : List (List Int)) : List (List Int) := (List.range rows.length).map fun j => if j < i then marks (k + sumLen rows j) (rows[j]?.getD []).length else rows[j]?.getD []
theorem mixII_len (k i : Nat) (rows : List (List Int)) : (mixII k i rows).length = rows.length := by simp [mixII]
theorem mixII_get (k i : Nat) (rows : List (List Int)) {j : Nat} (h : j < rows.length) : (mixII k i rows)[j]?.getD [] = if j < i then marks (k + sumLen rows j) (rows[j]?.getD []).length else rows[j]?.getD [] := by
  simp [mixII, h]
theorem mixII_zero (k : Nat) (rows : List (List Int)) : mixII k 0 rows = rows := by
  apply List.ext_getElem
  · rw [mixII_len]
  · intro j h1 h2
    simp [mixII, h2]
theorem mixII_set (k i : Nat) (rows : List (List Int)) (h : i < rows.length) : (mixII k i rows).set i (marks (k + sumLen rows i) (rows[i]?.getD []).length) = mixII k (i + 1) rows := by
  apply List.ext_getElem
  · simp [mixII_len]
  · intro j h1 h2
    rw [List.getElem_set]
    simp only [mixII, List.getElem_map, List.getElem_range]
    by_cases e : i = j
    · subst e; rw [if_pos rfl, if_pos (by omega)]
    · rw [if_neg e]
      by_cases h3 : j < i
      · rw [if_pos h3, if_pos (by omega)]
      · rw [if_neg h3, if_neg (by omega)]
theorem rowG_set (rv : List Value) (rows : List (List Int)) (i : Nat) (xs : List Int) (hl : rv.length = rows.length) (hi : i < rows.length) : (rowG rv rows).set i (rv[i]?.getD undef, 2, i64s xs) = rowG rv (rows.set i xs) := by
  apply List.ext_getElem?
  intro j
  by_cases e : j = i
  · subst e
    rw [List.getElem?_set_self (by simp [rowG]; omega), rowG_get (by simpa using hl) (by simpa using hi), List.getElem?_set_self hi]
    rfl
  · rw [List.getElem?_set_ne (Ne.symm e)]
    simp only [rowG, List.getElem?_zipWith, List.getElem?_set_ne (Ne.symm e)]

set_option maxHeartbeats 1000000 in
theorem markI2_any (B : Nat) (v : Value) (xs : List Int) (k : Nat) (hx : xs.length ≤ 1000000) (hk : k ≤ 1000000) (w : World) (h : OwnI w B v xs) :
    Calls Try.prog 21 #[v, .int .i64 (k : Int)] w fun e w' => e = .returned (.int .i64 ((k + xs.length : Nat) : Int)) ∧ w.grownBy w' v.ownBlock ∧ OwnI w' B v (marks k xs.length) := by
  obtain ⟨a, c, rfl, -⟩ := h.form
  have H0 : Hid (OwnI w B (.slice a xs.length c) (mixM k 0 xs)) := by
    show OwnI _ _ _ _
    simpa [mixM, marks] using h
  clear h
  go_enter Try.func21, Try.ntmps21
  go_wp2
  go_loopw [1, 5] (fun u i wr => ∃ j : Nat, j ≤ xs.length ∧ i = .int .i64 j ∧ u = .int .i64 ((k + j : Nat) : Int) ∧ Hid (w.grownBy wr (Value.slice a xs.length c).ownBlock) ∧ Hid (OwnI wr B (.slice a xs.length c) (mixM k j xs))) (fun _ i _ => xs.length - (intOf i).toNat)
  case atStart => exact ⟨0, Nat.zero_le _, rfl, rfl, ⟨rfl, rfl, rfl, Nat.le_refl _, fun _ _ _ => rfl⟩, H0⟩
  case round =>
    clear H0
    obtain ⟨j, hj, rfl, rfl, HG, HO⟩ := hrel
    by_cases hlt : j < xs.length
    · have hO := HO.out
      have hlen := mixM_length k j xs hj
      obtain ⟨g, rfl, hgB⟩ : ∃ g, a = some ⟨g, 0, none⟩ ∧ B ≤ g := by
        rcases hO.2 with ⟨_, e⟩ | ⟨g, cap, cur, hv, h1, rest⟩
        · omega
        · simp at hv; exact ⟨g, hv.1, h1⟩
      have hO' : wr.ownsRow B 2 1 (.slice (some ⟨g, 0, none⟩) xs.length c) xs.length (i64s (mixM k j xs)) := by
        have := hO; rw [OwnI, hlen] at this; exact this
      have hcell := hO'.cellAt j (by omega)
      rw [i64s_get (by omega)] at hcell
      have hfz := hO'.frozenAt j
      have hset : Hid (OwnI (wr.setCell ⟨g, j, none⟩ (.int .i64 ((k + j : Nat) : Int))) B (.slice (some ⟨g, 0, none⟩) xs.length c) (mixM k (j + 1) xs)) := by
        have := (hO'.stored j (.int .i64 ((k + j : Nat) : Int))).1
        rw [mixM_succ k j xs hlt] at this
        show World.ownsRow _ _ _ _ _ _ _
        rw [mixM_length k (j + 1) xs hlt]
        exact this
      have HG2 : Hid (w.grownBy (wr.setCell ⟨g, j, none⟩ (.int .i64 ((k + j : Nat) : Int))) (Value.slice (some ⟨g, 0, none⟩) xs.length c).ownBlock) := by
        have hg := HG.out
        refine ⟨hg.os, hg.tape, hg.output, by have := hg.size; simpa [World.setCell] using this, fun b hb hne => ?_⟩
        have : b ≠ g := fun e => hne (by rw [e]; rfl)
        exact (heap_setCell_other wr ⟨g, j, none⟩ b _ this).trans (hg.block b hb hne)
      have i1 : (0 : Int) ≤ (j : Int) := by omega
      have i2 : (j : Int) < (xs.length : Int) := by omega
      obtain ⟨z, hz⟩ : ∃ z, (mixM k j xs)[j]?.getD 0 = z := ⟨_, rfl⟩
      rw [hz] at hcell
      clear hz hO hO' hlen
      go_wp2
      go_roundw
      case rel => exact ⟨j + 1, by omega, by go_num, by go_num, HG2, hset⟩
      case measure => simp [intOf]; omega
    · have hj' : j = xs.length := by omega
      subst hj'
      rw [mixM_all] at HO
      go_wp2
      go_ret
      exact ⟨rfl, HG.out, HO.out⟩

set_option maxHeartbeats 1000000 in
theorem markII_any (B : Nat) (v : Value) (rows : List (List Int)) (k : Nat) (hn : rows.length ≤ 500000) (hs : sumLen rows rows.length ≤ 500000) (hk : k ≤ 100) (w : World) (h : OwnII w B v rows) :
    Calls Try.prog 38 #[v, .int .i64 (k : Int)] w fun e w' => e = .returned (.int .i64 ((k + sumLen rows rows.length : Nat) : Int)) ∧ Below B w w' ∧ OwnII w' B v (mixII k rows.length rows) := by
  obtain ⟨a, c, rfl, -⟩ := h.sl
  obtain ⟨rv, hl, hM⟩ := h
  have H0 : Hid (Mm B w w [] ((.slice a rows.length c, 26, rv) :: rowG rv (mixII k 0 rows))) := by rw [mixII_zero]; exact hM
  clear hM
  go_enter Try.func38, Try.ntmps38
  go_wp2_with fail
  go_loopw [1, 5] (fun u i wr => ∃ j : Nat, j ≤ rows.length ∧ i = .int .i64 j ∧ u = .int .i64 ((k + sumLen rows j : Nat) : Int) ∧ Hid (Mm B w wr [] ((.slice a rows.length c, 26, rv) :: rowG rv (mixII k j rows)))) (fun _ i _ => rows.length - (intOf i).toNat)
  case atStart => exact ⟨0, Nat.zero_le _, rfl, rfl, H0⟩
  case round =>
    clear H0
    obtain ⟨j, hj, rfl, rfl, HM⟩ := hrel
    by_cases hlt : j < rows.length
    · have hlm := mixII_len k j rows
      have ho := HM.out.own _ (List.mem_cons_self ..)
      simp only at ho
      obtain ⟨g, rfl⟩ : ∃ g, a = some ⟨g, 0, none⟩ := by
        rcases ho.2 with ⟨_, e⟩ | ⟨g, cap, cur, hv, h1, rest⟩
        · omega
        · simp at hv; exact ⟨g, hv.1⟩
      rw [hl] at ho
      have hcell := World.ownsRow.cellAt ho j (by omega)
      have hrow := rowG_get (rv := rv) (rows := mixII k j rows) (by rw [hlm]; exact hl) (i := j) (by rw [hlm]; exact hlt)
      rw [mixII_get k j rows hlt, if_neg (by omega)] at hrow
      have hown : OwnI wr B (rv[j]?.getD undef) (rows[j]?.getD []) := OwnI.of_row (HM.out.own _ (List.mem_cons_of_mem _ (mem_of_get hrow)))
      have hcell' : wr.cell? ⟨g, j, none⟩ = some (rv[j]?.getD undef) := by rw [hcell, List.getElem?_eq_getElem (by omega : j < rv.length)]; rfl
      obtain ⟨a', c', e, -⟩ := id hown.form
      have hss := sumLen_succ rows j hlt
      have hsl := sumLen_le rows (j + 1)
      have HSTEP : Hid (∀ w', wr.grownBy w' (rv[j]?.getD undef).ownBlock → OwnI w' B (rv[j]?.getD undef) (marks (k + sumLen rows j) (rows[j]?.getD []).length) → Mm B w w' [] ((.slice (some ⟨g, 0, none⟩) rows.length c, 26, rv) :: rowG rv (mixII k (j + 1) rows))) := fun w' hg ho' => by
        have h1 := HM.out.gcall (j + 1) (by rw [List.getElem?_cons_succ]; exact hrow) hg (n := (i64s (marks (k + sumLen rows j) (rows[j]?.getD []).length)).length) (ys := i64s (marks (k + sumLen rows j) (rows[j]?.getD []).length)) (by simpa [OwnI, i64s] using ho') rfl
        rw [List.set_cons_succ, rowG_set rv (mixII k j rows) j _ (by rw [hlm]; exact hl) (by rw [hlm]; exact hlt), mixII_set k j rows hlt] at h1
        exact h1
      have HOWN := Lib.hid hown
      have i1 : (0 : Int) ≤ (j : Int) := by omega
      have i2 : (j : Int) < (rows.length : Int) := by omega
      have HSS := Lib.hid hss
      have hlen : (rows[j]?.getD []).length ≤ 500000 := by omega
      have hacc : k + sumLen rows j ≤ 1000000 := by omega
      clear hown ho hcell hrow HM hss hsl
      generalize rv[j]?.getD undef = r at *
      generalize rows[j]?.getD [] = xs at *
      subst e
      go_wp2_with fail
      refine (markI2_any B _ xs (k + sumLen rows j) (by omega) hacc _ HOWN.out).mono ?_
      rintro e w1 ⟨rfl, hg, ho'⟩
      have HM1 := Lib.hid (HSTEP.out w1 hg ho')
      clear hg ho' hcell'
      go_wp2_with fail
      go_roundw
      case rel => exact ⟨j + 1, by omega, by go_num, by rw [HSS.out]; exact vint (by omega), HM1⟩
      case measure => simp [intOf] <;> omega
    · have hj' : j = rows.length := by omega
      subst hj'
      go_wp2_with fail
      go_ret
      exact ⟨rfl, HM.out.below, rv, by rw [mixII_len]; exact hl, HM.out.since⟩

set_option maxHeartbeats 1000000 in
theorem heldII_any (B : Nat) (v : Value) (rows : List (List Int)) (k : Nat) (hn : rows.length ≤ 500000) (hs : sumLen rows rows.length ≤ 500000) (hk : k ≤ 100) (w : World) (h : OwnII w B v (mixII k rows.length rows)) :
    Calls Try.prog 39 #[v, .int .i64 (k : Int)] w (Ret (.int .i64 ((k + sumLen rows rows.length : Nat) : Int)) w) := by
  obtain ⟨a, c, rfl, -⟩ := h.sl
  rw [mixII_len]
  obtain ⟨rv, hl, hM⟩ := h
  rw [mixII_len] at hl hM
  have HM := Lib.hid hM
  clear hM
  go_enter Try.func39, Try.ntmps39
  go_wp2_with fail
  go_loopw [1, 5] (fun u i wr => ∃ j : Nat, j ≤ rows.length ∧ i = .int .i64 j ∧ u = .int .i64 ((k + sumLen rows j : Nat) : Int) ∧ Below w.heap.size w wr) (fun _ i _ => rows.length - (intOf i).toNat)
  case atStart => exact ⟨0, Nat.zero_le _, rfl, rfl, Below.refl _ _⟩
  case round =>
    obtain ⟨j, hj, rfl, rfl, hb⟩ := hrel
    by_cases hlt : j < rows.length
    · have hlm := mixII_len k rows.length rows
      have hM := (HM.out.call hb)
      have ho := hM.own _ (List.mem_cons_self ..)
      simp only at ho
      obtain ⟨g, rfl⟩ : ∃ g, a = some ⟨g, 0, none⟩ := by
        rcases ho.2 with ⟨_, e⟩ | ⟨g, cap, cur, hv, h1, rest⟩
        · omega
        · simp at hv; exact ⟨g, hv.1⟩
      rw [hl] at ho
      have hcell := World.ownsRow.cellAt ho j (by omega)
      have hrow := rowG_get (rv := rv) (rows := mixII k rows.length rows) (by rw [hlm]; exact hl) (i := j) (by rw [hlm]; exact hlt)
      rw [mixII_get k rows.length rows hlt, if_pos hlt] at hrow
      have hown : OwnI wr B (rv[j]?.getD undef) (marks (k + sumLen rows j) (rows[j]?.getD []).length) := OwnI.of_row (hM.own _ (List.mem_cons_of_mem _ (mem_of_get hrow)))
      have hcell' : wr.cell? ⟨g, j, none⟩ = some (rv[j]?.getD undef) := by rw [hcell, List.getElem?_eq_getElem (by omega : j < rv.length)]; rfl
      obtain ⟨a', c', e, -⟩ := id hown.form
      have hss := sumLen_succ rows j hlt
      have hsl := sumLen_le rows (j + 1)
      have HOWN := Lib.hid hown
      have i1 : (0 : Int) ≤ (j : Int) := by omega
      have i2 : (j : Int) < (rows.length : Int) := by omega
      have HSS := Lib.hid hss
      have hlen : (rows[j]?.getD []).length ≤ 500000 := by omega
      have hacc : k + sumLen rows j ≤ 1000000 := by omega
      clear hown ho hcell hrow hM hss hsl
      generalize rv[j]?.getD undef = r at *
      generalize (rows[j]?.getD []).length = len at *
      rw [marks_length] at e
      subst e
      go_wp2_with fail
      refine (heldI_any B _ (k + sumLen rows j) len (by omega) hacc _ HOWN.out).mono ?_
      rintro e w1 ⟨rfl, hb1⟩
      have hbb := hb.trans (hb1.mono hb.size)
      clear hcell'
      go_wp2_with fail
      go_roundw
      case rel => exact ⟨j + 1, by omega, by go_num, by rw [HSS.out]; exact vint (by omega), hbb⟩
      case measure => simp [intOf] <;> omega
    · have hj' : j = rows.length := by omega
      subst hj'
      go_wp2_with fail
      go_ret
      exact ⟨rfl, hb⟩

/-- it returns a slice of slices of its own and a code -/
def RetII (rows : List (List Int)) (c : Int) (w : World) (e : Ending) (w' : World) : Prop := ∃ v, e = .returned (.tuple #[v, .int .i64 c]) ∧ Below w.heap.size w w' ∧ OwnII w' w.heap.size v rows
section
variable {B : Nat} {w0 w : World} {v : Value} {rv : List Value} {rows : List (List Int)}
theorem rowG_snoc (r : Value) (xs : List Int) (hl : rv.length = rows.length) : rowG (rv ++ [r]) (rows ++ [xs]) = rowG rv rows ++ [(r, 2, i64s xs)] := by
  simp only [rowG]
  rw [List.zipWith_append hl]
  rfl
theorem OwnII.of (h : Mm B w0 w [] ((v, 26, rv) :: rowG rv rows)) (hl : rv.length = rows.length) : OwnII w B v rows := ⟨rv, hl, h.since⟩
end

end Go.Proofs.Yteagecoiijhflaa
