import Derived.Test.YteagecoiijhflaaZLOrderOf08
import Derived.Test.YteagecoiijhflaaZLOrderOf06
import Derived.Test.YteagecoiijhflaaZLOrderOf07
/- (*table).least. -/
namespace Go.Proofs.Yteagecoiijhflaa
open Go.RowKit
set_option linter.unusedVariables false
set_option linter.unusedSimpArgs false

def finL (t : Tbl) : List Int := (List.range t.n).map fun q => (t.fin q : Int)
theorem finL_len (t : Tbl) : (finL t).length = t.n := by simp [finL]
theorem finL_get (t : Tbl) {q : Nat} (h : q < t.n) : (finL t)[q]?.getD 0 = (t.fin q : Int) := by simp [finL, h]
theorem nvs_i64s (n : Nat) (f : Nat → Nat) : nvs n f = i64s ((List.range n).map fun q => (f q : Int)) := by simp [nvs, i64s]
/-- the first k states done -/
def upV (f : Nat → Nat) (k q : Nat) : Nat := if q < k then f q else 0
theorem upV_set (f : Nat → Nat) (k : Nat) : updN (upV f k) k (f k) = upV f (k + 1) := by
  funext q
  simp only [updN, upV]
  by_cases e : q = k
  · subst e; rw [if_pos rfl, if_pos (by omega)]
  · rw [if_neg e]
    by_cases h : q < k
    · rw [if_pos h, if_pos (by omega)]
    · rw [if_neg h, if_neg (by omega)]
theorem upV_all (f : Nat → Nat) (n : Nat) : nvs n (upV f n) = nvs n f := nvs_congr fun q hq => by simp [upV, hq]
theorem tot_cls_le (t : Tbl) (k n : Nat) : tot (t.cls k) n ≤ n * n := by
  have : ∀ j, j ≤ n → tot (t.cls k) j ≤ j * n := by
    intro j
    induction j with
    | zero => intro _; simp [tot]
    | succ j ih =>
      intro h
      have := ih (by omega)
      have := t.cls_le k j
      simp only [tot]
      rw [Nat.add_mul]; omega
  exact this n (Nat.le_refl _)
theorem tot_le_tot {f g : Nat → Nat} : ∀ n, (∀ q, q < n → f q ≤ g q) → tot f n ≤ tot g n
  | 0, _ => Nat.le_refl _
  | n + 1, h => by have := tot_le_tot n (fun q hq => h q (by omega)); have := h n (by omega); simp only [tot]; omega
theorem tot_lt_tot {f g : Nat → Nat} : ∀ n, (∀ q, q < n → f q ≤ g q) → (∃ q, q < n ∧ f q ≠ g q) → tot f n < tot g n
  | 0, _, ⟨q, hq, _⟩ => by omega
  | n + 1, h, ⟨q, hq, hne⟩ => by
    have h1 := h n (by omega)
    simp only [tot]
    by_cases e : q = n
    · subst e
      have := tot_le_tot q (fun p hp => h p (by omega))
      omega
    · have := tot_lt_tot n (fun p hp => h p (by omega)) ⟨q, by omega, hne⟩
      omega
theorem cls_same {t : Tbl} {k : Nat} (h : ((List.range t.n).all fun i => t.cls (k + 1) i == t.cls k i) = true) : t.St k := fun q hq => by
  rw [List.all_eq_true] at h
  simpa using h q (by simpa using hq)
theorem cls_differ {t : Tbl} {k : Nat} (h : ((List.range t.n).all fun i => t.cls (k + 1) i == t.cls k i) = false) : tot (t.cls k) t.n < tot (t.cls (k + 1)) t.n := by
  rw [List.all_eq_false] at h
  obtain ⟨q, hq, hne⟩ := h
  refine tot_lt_tot t.n (fun q _ => t.cls_mono k q) ⟨q, by simpa using hq, fun e => hne (by simp [e])⟩
theorem cls1_idx (t : Tbl) {q : Nat} (hq : q < t.n) : idxN (t.eqv 1 q) t.n = (t.cls 1 q : Int) :=
  idxN_hit (by have := t.cls_le 1 q; omega) (t.cls_eqv 1 q) (fun j hj => lst_min hj)

set_option maxRecDepth 100000 in
set_option maxHeartbeats 4000000 in
theorem least_any (t : Tbl) (hw : t.Wf) (hn : t.n ≤ 1000) (hd : t.d ≤ 100) (hn1 : 1 ≤ t.n) (T : Nat) (w : World) (hT : TabG w T t) :
    Calls Try.prog 106 #[.pointer (some ⟨T, 0, none⟩)] w fun e w' => ∃ v, e = .returned v ∧ Below w.heap.size w w' ∧ OwnI w' w.heap.size v (finL t) := by
  have hmf : ∀ (fn : Fn) (first cap : Array Value) (w : World), (Instr.makeFunc fn first cap).run Try.prog w = .ok (.func fn first cap) w := fun _ _ _ _ => rfl
  have HT := Lib.hid hT
  have hTw := hT.lt
  obtain ⟨gN, cN, gO, cO, t1, t2, t3, t4⟩ := id hT
  have hM0 := ((Mm.start w).alloc #[.pointer (some ⟨T, 0, none⟩)] 126).alloc (madeCells #[.int .i64 0] t.n) 2
  rw [show (w.alloc (.cells #[.pointer (some ⟨T, 0, none⟩)] 126)).heap.size = w.heap.size + 1 by simp, made_i64, show (nvs t.n fun _ => 0) = nvs t.n (upV (t.cls 1) 0) from nvs_congr fun q _ => by simp [upV]] at hM0
  have hmk := mk_i64 t.n (by omega) (w.alloc (.cells #[.pointer (some ⟨T, 0, none⟩)] 126))
  have T2 := Lib.hid t2
  have T4 := Lib.hid t4
  have hTO : T < w.heap.size := hTw
  clear hT t1 t3 t4
  go_enter Try.func106, Try.ntmps106
  go_wp2_with fail
  clear hmk t2
  go_loopw [19] (fun i wr => ∃ q : Nat, q ≤ t.n ∧ i = .int .i64 q ∧ Mm w.heap.size w wr [(w.heap.size + 1, nvs t.n (upV (t.cls 1) q), 2), (w.heap.size, [.pointer (some ⟨T, 0, none⟩)], 126)] []) (fun i _ => t.n - (intOf i).toNat)
  case atStart => exact ⟨0, Nat.zero_le _, rfl, hM0⟩
  case round =>
    clear hM0
    obtain ⟨q, hq, rfl, hM⟩ := hrel
    by_cases hlt : q < t.n
    · have hMa := hM.alloc #[.int .i64 (q : Int)] 3
      obtain ⟨wa, hwa⟩ : ∃ wa, wa = wr.alloc (.cells #[.int .i64 (q : Int)] 3) := ⟨_, rfl⟩
      obtain ⟨bq, hbq⟩ : ∃ bq, bq = wr.heap.size := ⟨_, rfl⟩
      rw [← hwa, ← hbq] at hMa
      have i1 : (0 : Int) ≤ (q : Int) := by omega
      have i2 : (q : Int) < (t.n : Int) := by omega
      have HS : Hid (∀ W cs, Mm w.heap.size w W [(bq, [.int .i64 (q : Int)], 3), (w.heap.size + 1, cs, 2), (w.heap.size, [.pointer (some ⟨T, 0, none⟩)], 126)] [] → (W.cell? ⟨bq, 0, none⟩ = some (.int .i64 (q : Int)) ∧ W.cell? ⟨w.heap.size, 0, none⟩ = some (.pointer (some ⟨T, 0, none⟩)) ∧ W.cell? ⟨T, 1, none⟩ = some (.slice (some ⟨gO, 0, none⟩) t.n cO))) := fun W cs h =>
        ⟨(h.at 0 rfl).cell' rfl, (h.at 2 rfl).cell' rfl, (h.below.cell (p := ⟨T, 1, none⟩) hTO).trans T2.out⟩
      have HIX : Hid (∀ W cs, Mm w.heap.size w W [(bq, [.int .i64 (q : Int)], 3), (w.heap.size + 1, cs, 2), (w.heap.size, [.pointer (some ⟨T, 0, none⟩)], 126)] [] → Calls Try.prog 125 #[.slice (some ⟨gO, 0, none⟩) t.n cO, .func (.func 134) #[] #[.pointer (some ⟨w.heap.size, 0, none⟩), .pointer (some ⟨bq, 0, none⟩)]] W (RetQ (.int .i64 (t.cls 1 q)) W)) := fun W cs h => by
        have hTW := HT.out.keep h.below
        have := indexFuncII_any 134 enters_least1 #[.pointer (some ⟨w.heap.size, 0, none⟩), .pointer (some ⟨bq, 0, none⟩)] gO t.n cO (by omega) (fun i => (W.cell? ⟨gO, i, none⟩).getD undef) (t.eqv 1 q) W
          (fun i hi => by
            obtain ⟨g, c, e, f⟩ := T4.out i hi
            have e' := (h.below.cell (p := ⟨gO, i, none⟩) (World.block_lt_of_cell? w _ e)).trans e
            rw [e']; rfl)
          (fun j i hi => by
            obtain ⟨g, c, e, f⟩ := T4.out i hi
            have e' := (h.below.cell (p := ⟨gO, i, none⟩) (World.block_lt_of_cell? w _ e)).trans e
            simp only [e', Option.getD_some]
            have hs := HS.out W cs h
            exact least1_any t hn hd T w.heap.size bq g c i q hlt (W.drewN j) hTW hs.2.1 hs.1 (fun x hx => (h.below.cell (p := ⟨g, x, none⟩) (World.block_lt_of_cell? w _ (f x hx))).trans (f x hx)))
        rwa [cls1_idx t hlt] at this
      have hmx : Try.prog.follows .mixedOrders = true := by kernel_rfl
      have HMX := Lib.hid hmx
      have HWA := Lib.hid hwa
      have HBQ := Lib.hid hbq
      clear hmx hM hbq hwa
      go_wp2_with fail
      rw [← HWA.out, ← HBQ.out]
      refine region_S (fun W => W.cell? ⟨bq, 0, none⟩ = some (.int .i64 (q : Int)) ∧ W.cell? ⟨w.heap.size, 0, none⟩ = some (.pointer (some ⟨T, 0, none⟩)) ∧ W.cell? ⟨T, 1, none⟩ = some (.slice (some ⟨gO, 0, none⟩) t.n cO)) [] 10 rfl HMX.out (HS.out _ _ hMa.drew) (fun hU => ?_)
      have hMW := hMa.drew
      obtain ⟨W, hW⟩ : ∃ W, W = wa.drew := ⟨_, rfl⟩
      rw [← hW] at hU hMW ⊢
      clear hW hMa
      (refine AnyS.take (i := 0) rfl (by kernel_rfl) (by kernel_rfl) (by kernel_rfl) (by rfl) (fun _ _ _ h => h) (by rfl) (by intro w; go_simp; with_reducible rfl) hU (fun hU => ?_); (try simp only [Act.put, List.setIfInBounds_toArray, List.set_cons_zero, List.set_cons_succ]))
      (refine AnyS.takeS (i := 1) rfl (by kernel_rfl) (by kernel_rfl) (by kernel_rfl) (by rfl) (by kernel_rfl) (by kernel_rfl) (fun _ _ _ h => h) (by rfl) (by intro W hSw; have h1 := hSw.1; clear hSw; go_simp; with_reducible rfl) hU (fun hU => ?_); (try simp only [Act.put, List.setIfInBounds_toArray, List.set_cons_zero, List.set_cons_succ]))
      (refine AnyS.takeS (i := 2) rfl (by kernel_rfl) (by kernel_rfl) (by kernel_rfl) (by rfl) (by kernel_rfl) (by kernel_rfl) (fun _ _ _ h => h) (by rfl) (by intro W hSw; have h1 := hSw.2.1; clear hSw; go_simp; with_reducible rfl) hU (fun hU => ?_); (try simp only [Act.put, List.setIfInBounds_toArray, List.set_cons_zero, List.set_cons_succ]))
      (refine AnyS.take (i := 3) rfl (by kernel_rfl) (by kernel_rfl) (by kernel_rfl) (by rfl) (fun _ _ _ h => h) (by rfl) (by intro w; go_simp; with_reducible rfl) hU (fun hU => ?_); (try simp only [Act.put, List.setIfInBounds_toArray, List.set_cons_zero, List.set_cons_succ]); refine AnyS.take (i := 4) rfl (by kernel_rfl) (by kernel_rfl) (by kernel_rfl) (by rfl) (fun _ _ _ h => h) (by rfl) (by intro w; go_simp; with_reducible rfl) hU (fun hU => ?_); (try simp only [Act.put, List.setIfInBounds_toArray, List.set_cons_zero, List.set_cons_succ]))
      (refine AnyS.takeS (i := 5) rfl (by kernel_rfl) (by kernel_rfl) (by kernel_rfl) (by rfl) (by kernel_rfl) (by kernel_rfl) (fun _ _ _ h => h) (by rfl) (by intro W hSw; have h1 := hSw.2.2; clear hSw; go_simp; with_reducible rfl) hU (fun hU => ?_); (try simp only [Act.put, List.setIfInBounds_toArray, List.set_cons_zero, List.set_cons_succ]))
      (refine AnyS.take (i := 6) rfl (by kernel_rfl) (by kernel_rfl) (by kernel_rfl) (by rfl) (fun _ _ _ h => h) (by rfl) (by intro w; go_simp; with_reducible rfl) hU (fun hU => ?_); (try simp only [Act.put, List.setIfInBounds_toArray, List.set_cons_zero, List.set_cons_succ]))
      refine AnyS.branch (rs := [7]) (by kernel_rfl) (by simp) (AllS.cons rfl (fun K hK => ?_) AllS.nil)
      go_simp
      refine (HIX.out _ _ hMW).mono ?_
      rintro e w4 ⟨rfl, a4, rfl⟩
      have hM4 := hMW.drewN a4
      refine hK.out _ _ (.inl (HS.out _ _ hM4)) (fun hU => ?_)
      clear hK K
      (try simp only [Act.put, List.setIfInBounds_toArray, List.set_cons_zero, List.set_cons_succ])
      (refine AnyS.take (i := 8) rfl (by kernel_rfl) (by kernel_rfl) (by kernel_rfl) (by rfl) (fun _ _ _ h => h) (by rfl) (by intro w; go_simp; with_reducible rfl) hU (fun hU => ?_); (try simp only [Act.put, List.setIfInBounds_toArray, List.set_cons_zero, List.set_cons_succ]))
      refine AnyS.branch (rs := [9]) (by kernel_rfl) (by simp) (AllS.cons rfl (fun K hK => ?_) AllS.nil)
      have c2 := (hM4.at 1 rfl).cell' (nvs_get (upV (t.cls 1) q) hlt)
      have f2 := (hM4.at 1 rfl).free q
      have hM5 := hM4.setCell 1 rfl q (.int .i64 (t.cls 1 q : Int))
      simp only [List.set_cons_zero, List.set_cons_succ] at hM5
      rw [nvs_set _ _ hlt, upV_set] at hM5
      have HM5 := Lib.hid hM5
      clear hM5 hMW hM4
      go_simp
      refine hK.out _ _ (.inl (HS.out _ _ HM5.out)) (fun hU => ?_)
      clear hK K c2 f2
      (try simp only [Act.put, List.setIfInBounds_toArray, List.set_cons_zero, List.set_cons_succ])
      refine AnyS.done (by kernel_rfl) ?_ _
      clear hU
      have HM6 := Lib.hid (HM5.out.sub (List.sublist_cons_self _ _))
      clear HM5
      go_wp2_with fail
      go_roundw
      case rel => exact ⟨q + 1, by omega, by go_num, HM6.out⟩
      case measure => simp [intOf] <;> omega
    · have hq' : q = t.n := by omega
      subst hq'
      rw [upV_all] at hM
      go_wp2_with fail
      go_loopg [3] (t.n * t.n) (fun gk v3 wr => ∃ k A : Nat, 1 ≤ k ∧ v3 = .slice (some ⟨A, 0, none⟩) t.n t.n ∧ Mm w.heap.size w wr [(A, nvs t.n (t.cls k), 2), (w.heap.size, [.pointer (some ⟨T, 0, none⟩)], 126)] [] ∧ Hid (t.n * t.n ≤ gk + tot (t.cls k) t.n))
      case atStart => exact ⟨1, _, Nat.le_refl _, rfl, hM, Nat.le_add_right _ _⟩
      case round =>
        clear hM
        obtain ⟨k, A, hk, rfl, hM, HG⟩ := hrel
        have hmk := mk_i64 t.n (by omega) wr
        have hM1 := hM.alloc (madeCells #[.int .i64 0] t.n) 2
        rw [made_i64, show (nvs t.n fun _ => 0) = nvs t.n (upV (t.cls (k + 1)) 0) from nvs_congr fun q _ => by simp [upV]] at hM1
        obtain ⟨A2, hA2⟩ : ∃ A2, A2 = wr.heap.size := ⟨_, rfl⟩
        rw [← hA2] at hM1
        have HA2 := Lib.hid hA2
        clear hM hA2
        go_wp2_with fail
        rw [← HA2.out]
        clear hmk
        go_loopw [6, 37] (fun s6 i wi => ∃ q : Nat, q ≤ t.n ∧ i = .int .i64 q ∧ s6 = .bool ((List.range q).all fun i => t.cls (k + 1) i == t.cls k i) ∧ Mm w.heap.size w wi [(A2, nvs t.n (upV (t.cls (k + 1)) q), 2), (A, nvs t.n (t.cls k), 2), (w.heap.size, [.pointer (some ⟨T, 0, none⟩)], 126)] []) (fun _ i _ => t.n - (intOf i).toNat)
        case atStart => exact ⟨0, Nat.zero_le _, rfl, rfl, hM1⟩
        case round =>
          clear hM1 HA2
          obtain ⟨q, hq, rfl, rfl, hM⟩ := hrel
          by_cases hqlt : q < t.n
          · have i1 : (0 : Int) ≤ (q : Int) := by omega
            have i2 : (q : Int) < (t.n : Int) := by omega
            have c1 := (hM.at 2 rfl).cell' (i := 0) rfl
            have c2 := (hM.at 0 rfl).cell' (nvs_get (upV (t.cls (k + 1)) q) hqlt)
            have f2 := (hM.at 0 rfl).free q
            have HLK : Hid (Calls Try.prog 136 #[.pointer (some ⟨T, 0, none⟩), .slice (some ⟨A, 0, none⟩) t.n t.n, .int .i64 q] wr (RetQ (.int .i64 (t.cls (k + 1) q)) wr)) :=
              like_any t hw hn hd T k hk (t.cls k) (fun _ _ => rfl) A q hqlt wr (HT.out.keep hM.below) (fun q hq => (hM.at 1 rfl).cell' (nvs_get (t.cls k) hq))
            have HX := Lib.hid (allUpto_succ (fun i => t.cls (k + 1) i == t.cls k i) q)
            generalize upV (t.cls (k + 1)) q q = old at *
            go_wp2_with fail
            refine HLK.out.mono ?_
            rintro e w1 ⟨rfl, a1, rfl⟩
            have hM1 := (hM.drewN a1).setCell 0 rfl q (.int .i64 (t.cls (k + 1) q : Int))
            simp only [List.set_cons_zero, List.set_cons_succ] at hM1
            rw [nvs_set _ _ hqlt, upV_set] at hM1
            have c3 := (hM1.at 0 rfl).cell' (nvs_get (upV (t.cls (k + 1)) (q + 1)) hqlt)
            rw [show upV (t.cls (k + 1)) (q + 1) q = t.cls (k + 1) q by simp [upV]] at c3
            have c4 := (hM1.at 1 rfl).cell' (nvs_get (t.cls k) hqlt)
            have HM1 := Lib.hid hM1
            clear hM hM1 HLK
            obtain ⟨u, hu⟩ : ∃ u, u = t.cls (k + 1) q := ⟨_, rfl⟩
            obtain ⟨v, hv⟩ : ∃ v, v = t.cls k q := ⟨_, rfl⟩
            rw [← hu] at c3 c4 HM1 HX
            rw [← hv] at c4 HX
            rw [← hu]
            have HU := Lib.hid hu
            have HV := Lib.hid hv
            clear hu hv c1
            have HY : Hid (((u : Int) == (v : Int)) = (u == v)) := by show _ = _; rw [Bool.eq_iff_iff]; simp; omega
            cases hs : (List.range q).all fun i => t.cls (k + 1) i == t.cls k i
            · rw [hs] at HX
              clear hs
              go_wp2_with fail
              go_quiet (fail)
              go_wp2_with fail
              go_roundw
              case rel => exact ⟨q + 1, by omega, by go_num, by rw [HX.out]; rfl, HM1.out.drewN _⟩
              case measure => simp [intOf] <;> omega
            · rw [hs] at HX
              clear hs
              go_wp2_with fail
              go_quiet (fail)
              go_wp2_with fail
              go_roundw
              case rel => exact ⟨q + 1, by omega, by go_num, by rw [HX.out, HY.out]; simp, HM1.out.drewN _⟩
              case measure => simp [intOf] <;> omega
          · have hq' : q = t.n := by omega
            subst hq'
            cases hs : (List.range t.n).all fun i => t.cls (k + 1) i == t.cls k i
            · have hd' := cls_differ hs
              have hle := tot_cls_le t (k + 1) t.n
              rw [upV_all] at hM
              have hM2 : Mm w.heap.size w wr [(A2, nvs t.n (t.cls (k + 1)), 2), (w.heap.size, [.pointer (some ⟨T, 0, none⟩)], 126)] [] := hM.sub (by apply List.Sublist.cons_cons; apply List.Sublist.cons; exact List.Sublist.refl _)
              have HG2 : Hid (t.n * t.n ≤ (gk - 1) + tot (t.cls (k + 1)) t.n ∧ gk - 1 < gk) := by have := HG.out; show _ ∧ _; omega
              clear hs hM hd' hle HG
              go_wp2_with fail
              go_roundg (gk - 1)
              case measure => exact HG2.out.2
              case rel => exact ⟨k + 1, A2, by omega, rfl, hM2, HG2.out.1⟩
            · have hst := cls_same hs
              have HFIN : Hid (nvs t.n (t.cls k) = i64s (finL t)) := by
                show _ = _
                rw [nvs_i64s, finL]
                congr 1
                exact List.map_congr_left fun q hq => by rw [t.fin_st hw hn1 hst (by simpa using hq)]
              have hM2 : Mm w.heap.size w wr [(A, nvs t.n (t.cls k), 2), (w.heap.size, [.pointer (some ⟨T, 0, none⟩)], 126)] [] := hM.sub (List.sublist_cons_self _ _)
              have hF := (hM2.addOwn (List.mem_cons_self ..) t.n (by simp [nvs_len]) (by omega))
              have hO := hF.own _ (List.mem_cons_self ..)
              rw [HFIN.out] at hO
              have HO : Hid (OwnI wr w.heap.size (.slice (some ⟨A, 0, none⟩) t.n t.n) (finL t)) := by
                show World.ownsRow _ _ _ _ _ _ _
                simpa [i64s] using hO
              have hbl := hM2.below
              clear hs hM hM2 hF hO hst
              go_wp2_with fail
              go_ret
              exact ⟨_, rfl, hbl, HO.out⟩
end Go.Proofs.Yteagecoiijhflaa

/- A group behind its pointer; newGroup. -/
namespace Go.Proofs.Yteagecoiijhflaa
open Go.RowKit
set_option linter.unusedVariables false
set_option linter.unusedSimpArgs false

/-- a group lies at block G -/
structure GrpR (w : World) (G : Nat) (m : Mch) : Prop where
  mach : MAt w G 0 m
  back : MAt w G 98 (invM m)
  cls : ∃ g c, w.cell? ⟨G, 196, none⟩ = some (.slice (some ⟨g, 0, none⟩) m.s c) ∧ ∀ q, q < m.s → w.cell? ⟨g, q, none⟩ = some (.int .i64 (m.tbl.fin q))
  trv : ∃ g c, w.cell? ⟨G, 197, none⟩ = some (.slice (some ⟨g, 0, none⟩) m.s c) ∧ ∀ q, q < m.s → w.cell? ⟨g, q, none⟩ = some (.bool (trivB m q))
theorem GrpR.keep {w w' : World} {G : Nat} {m : Mch} (h : GrpR w G m) (hb : Below w.heap.size w w') : GrpR w' G m := by
  have K : ∀ (a : Addr) (v : Value), w.cell? a = some v → w'.cell? a = some v := fun a v h => (hb.cell (World.block_lt_of_cell? w a h)).trans h
  have hG : G < w.heap.size := World.block_lt_of_cell? w _ h.mach.l
  obtain ⟨h1, h2, ⟨g, c, h3, h4⟩, ⟨g', c', h5, h6⟩⟩ := h
  exact ⟨h1.below hb hG, h2.below hb hG, ⟨g, c, K _ _ h3, fun q hq => K _ _ (h4 q hq)⟩, ⟨g', c', K _ _ h5, fun q hq => K _ _ (h6 q hq)⟩⟩
theorem GrpR.lt {w : World} {G : Nat} {m : Mch} (h : GrpR w G m) : G < w.heap.size := World.block_lt_of_cell? w _ h.mach.l

/-! structs of several wide parts -/
theorem fold_splice (off : Nat) : ∀ (vs : List Value) (cs : Array Value) (k : Nat), ((vs.zipIdx k).foldl (fun (cs : Array Value) x => cs.setIfInBounds (off + x.2) x.1) cs).toList = splice cs.toList (off + k) vs
  | [], cs, k => rfl
  | v :: r, cs, k => by
    rw [List.zipIdx_cons, List.foldl_cons, fold_splice off r _ (k + 1), splice]
    simp [Nat.add_assoc]
theorem fill_step (place : Nat → Option (Nat × Nat)) (cells : Array Value) (i : Nat) (v : Value) (rest : List (Nat × Value)) (off size : Nat) (hp : place i = some (off, size)) (hs : v.cells.size = size) (hb : off + size ≤ cells.size) :
    Instr.fill place cells ((i, v) :: rest) = Instr.fill place (splice cells.toList off v.cells.toList).toArray rest := by
  rw [Instr.fill, hp]
  simp only
  rw [if_neg (by simp [hs]; omega)]
  congr 1
  rw [← Array.toList_inj]
  have h := fold_splice off v.cells.toList cells 0
  rw [Nat.add_zero] at h
  rw [List.toList_toArray, ← h, ← Array.foldl_toList, Array.toList_zipIdx]
theorem run_bld {t : TypeId} {parts : Array (Nat × Operand)} {cells : Array Value} {a : Act} {op : Oper} {ps : List (Nat × Value)} (ho : op.op = .build t parts) {w : World} (h' : Try.prog.built t ps = some cells) (hp : (parts.toList.map fun x => (x.1, a.eval x.2)) = ps) :
    (execOp a.eval op).run Try.prog w = .ok (.value (.agg cells)) w := by
  have h : Try.prog.built t (parts.map fun (i, x) => (i, a.eval x)).toList = some cells := by rw [Array.toList_map, ← h', ← hp]
  unfold execOp
  simp only [ho]
  simp [run_build w t _ cells h]
/-- a group's cells -/
def gcells (m : Mch) (u v : Value) : List Value := m.cells ++ ((invM m).cells ++ [u, v])
theorem splice_app (pre mid post vs : List Value) (h : vs.length = mid.length) : splice (pre ++ (mid ++ post)) pre.length vs = pre ++ (vs ++ post) := by
  apply List.ext_getElem?
  intro i
  rw [splice_get]
  simp only [List.length_append]
  by_cases c : pre.length ≤ i ∧ i < pre.length + vs.length ∧ i < pre.length + (mid.length + post.length)
  · rw [if_pos c, List.getElem?_append_right c.1, List.getElem?_append_left (by omega)]
  · rw [if_neg c]
    by_cases c1 : i < pre.length
    · rw [List.getElem?_append_left c1, List.getElem?_append_left c1]
    · rw [List.getElem?_append_right (by omega), List.getElem?_append_right (by omega)]
      by_cases c2 : i - pre.length < vs.length
      · exfalso; omega
      · rw [List.getElem?_append_right (by omega), List.getElem?_append_right (by omega), h]
theorem zeroG : Try.zeroCells133.toList = (Value.int .i64 0 :: Value.int .i64 0 :: List.replicate 96 (Value.int .u8 0)) ++ ((Value.int .i64 0 :: Value.int .i64 0 :: List.replicate 96 (Value.int .u8 0)) ++ [Value.slice none 0 0, Value.slice none 0 0]) := by kernel_rfl
theorem infoG : (Try.prog.info? 133).map (·.zero) = some (some (.agg Try.zeroCells133)) := by kernel_rfl
theorem placesG : (match Try.prog.underlying 133 with | some (.struct fields) => fields.toList.mapM (fun f => (Try.prog.info? f.type).map fun i => (f.offset, i.size)) | _ => none) = some [(0, 98), (98, 98), (196, 1), (197, 1)] := by kernel_rfl
theorem builtG {m : Mch} (hwf : m.Wf) (hok : m.Ok) (a b : Option Addr) (n k c d : Nat) :
    Try.prog.built 133 [(0, .agg m.cells.toArray), (1, .agg (invM m).cells.toArray), (2, .slice a n c), (3, .slice b k d)] = some (gcells m (.slice a n c) (.slice b k d)).toArray := by
  have hl1 := Mch.cells_length hwf
  have hl2 := Mch.cells_length (invM_wf hok hwf)
  have hi := infoG
  have hp := placesG
  unfold Program.built
  cases h1 : Try.prog.info? 133 with
  | none => rw [h1] at hi; cases hi
  | some it =>
    rw [h1] at hi
    simp only [Option.map_some, Option.some.injEq] at hi
    cases h2 : Try.prog.underlying 133 with
    | none => rw [h2] at hp; cases hp
    | some td =>
      rw [h2] at hp
      cases td <;> try (cases hp; done)
      rename_i fields
      simp only at hp ⊢
      rw [hi, hp]
      simp only [Value.cells]
      have hz : Try.zeroCells133.size = 198 := by rw [← Array.length_toList, zeroG]; rfl
      have e1 : splice Try.zeroCells133.toList 0 m.cells = m.cells ++ ((Value.int .i64 0 :: Value.int .i64 0 :: List.replicate 96 (Value.int .u8 0)) ++ [Value.slice none 0 0, Value.slice none 0 0]) := by
        rw [zeroG]; exact splice_app [] (Value.int .i64 0 :: Value.int .i64 0 :: List.replicate 96 (Value.int .u8 0)) _ _ (by rw [hl1]; rfl)
      have e2 : splice (m.cells ++ ((Value.int .i64 0 :: Value.int .i64 0 :: List.replicate 96 (Value.int .u8 0)) ++ [Value.slice none 0 0, Value.slice none 0 0])) 98 (invM m).cells = m.cells ++ ((invM m).cells ++ [Value.slice none 0 0, Value.slice none 0 0]) := by
        have := splice_app m.cells (Value.int .i64 0 :: Value.int .i64 0 :: List.replicate 96 (Value.int .u8 0)) [Value.slice none 0 0, Value.slice none 0 0] (invM m).cells (by rw [hl2]; rfl)
        rwa [hl1] at this
      have e3 : splice (m.cells ++ ((invM m).cells ++ [Value.slice none 0 0, Value.slice none 0 0])) 196 [Value.slice a n c] = m.cells ++ ((invM m).cells ++ [Value.slice a n c, Value.slice none 0 0]) := by
        have := splice_app (m.cells ++ (invM m).cells) [Value.slice none 0 0] [Value.slice none 0 0] [Value.slice a n c] rfl
        simpa [hl1, hl2] using this
      have e4 : splice (m.cells ++ ((invM m).cells ++ [Value.slice a n c, Value.slice none 0 0])) 197 [Value.slice b k d] = m.cells ++ ((invM m).cells ++ [Value.slice a n c, Value.slice b k d]) := by
        have := splice_app (m.cells ++ ((invM m).cells ++ [Value.slice a n c])) [Value.slice none 0 0] [] [Value.slice b k d] rfl
        simpa [hl1, hl2] using this
      rw [fill_step _ _ 0 _ _ 0 98 rfl (by simp [Value.cells, hl1]) (by rw [hz]; omega)]
      simp only [Value.cells]
      rw [e1, fill_step _ _ 1 _ _ 98 98 rfl (by simp [Value.cells, hl2]) (by simp [hl1])]
      simp only [Value.cells]
      rw [e2, fill_step _ _ 2 _ _ 196 1 rfl rfl (by simp [hl1, hl2])]
      simp only [Value.cells]
      rw [e3, fill_step _ _ 3 _ _ 197 1 rfl rfl (by simp [hl1, hl2])]
      simp only [Value.cells]
      rw [e4]
      rfl

set_option maxRecDepth 100000 in
set_option maxHeartbeats 4000000 in
theorem newGroup_any (m : Mch) (hwf : m.Wf) (hok : m.Ok) (w : World) :
    Calls Try.prog 67 #[.agg m.cells.toArray] w fun e w' => ∃ G, e = .returned (.pointer (some ⟨G, 0, none⟩)) ∧ Below w.heap.size w w' ∧ GrpR w' G m := by
  have h3 := hok.l_le
  have h16 := hok.s_le
  have hm := MAt.boxed w m 29
  have hb0 := boxedBelow w m.cells.toArray 29
  have hmx : Try.prog.follows .mixedOrders = true := by kernel_rfl
  have HMX := Lib.hid hmx
  have HIM := Lib.hid (mach_info hwf)
  clear hmx
  go_enter Try.func67, Try.ntmps67
  go_wp2_with fail
  refine (table_any w.heap.size 0 m hwf hok _ hm).mono ?_
  rintro e w1 ⟨T, rfl, hb1, hT⟩
  have hR := hT.reads hok.s_pos
  have hbb1 := hb0.trans (hb1.mono hb0.size)
  have hm1 := hm.keep hb1 hwf
  have HM1 := Lib.hid hm1
  have HR := Lib.hid hR
  clear hm hT hR hm1
  go_wp2_with fail
  have HSM : Hid (∀ W, Below w1.heap.size w1 W → MAt W w.heap.size 0 m) := fun W hW => HM1.out.keep hW hwf
  refine region_S (fun W => MAt W w.heap.size 0 m) [] 9 rfl HMX.out (HM1.out.drewN 1) (fun hU => ?_)
  obtain ⟨W, hW⟩ : ∃ W, W = w1.drew := ⟨_, rfl⟩
  have hBW : Below w1.heap.size w1 W := by rw [hW]; exact (Below.refl _ w1).drew
  rw [← hW] at hU ⊢
  clear hW
  (refine AnyS.takeS (i := 0) rfl (by kernel_rfl) (by kernel_rfl) (by kernel_rfl) (by rfl) (by kernel_rfl) (by kernel_rfl) (fun _ _ _ h => h) (by rfl) (fun W hW => run_ld Try.underlying29 rfl HIM.out (.tmp 1) rfl rfl hW) hU (fun hU => ?_); (try simp only [Act.put, List.setIfInBounds_toArray, List.set_cons_zero, List.set_cons_succ]))
  (refine AnyS.take (i := 2) rfl (by kernel_rfl) (by kernel_rfl) (by kernel_rfl) (by rfl) (fun _ _ _ h => h) (by rfl) (by intro w; go_simp; with_reducible rfl) hU (fun hU => ?_); (try simp only [Act.put, List.setIfInBounds_toArray, List.set_cons_zero, List.set_cons_succ]); refine AnyS.take (i := 4) rfl (by kernel_rfl) (by kernel_rfl) (by kernel_rfl) (by rfl) (fun _ _ _ h => h) (by rfl) (by intro w; go_simp; with_reducible rfl) hU (fun hU => ?_); (try simp only [Act.put, List.setIfInBounds_toArray, List.set_cons_zero, List.set_cons_succ]))
  refine AnyS.branch (rs := [1]) (by kernel_rfl) (by simp) (AllS.cons rfl (fun K hK => ?_) AllS.nil)
  go_simp
  refine (inverse_any w.heap.size 0 m hwf hok _ (HSM.out _ hBW)).mono ?_
  rintro e w2 ⟨rfl, hb2⟩
  have hB2 := hBW.trans (hb2.mono hBW.size)
  refine hK.out _ _ (.inl (HSM.out _ hB2)) (fun hU => ?_)
  clear hK K hBW
  (try simp only [Act.put, List.setIfInBounds_toArray, List.set_cons_zero, List.set_cons_succ])
  refine AnyS.branch (rs := [3]) (by kernel_rfl) (by simp) (AllS.cons rfl (fun K hK => ?_) AllS.nil)
  go_simp
  refine (least_any m.tbl (m.tbl_wf hok hwf) (by show m.s ≤ _; omega) (by show m.l ≤ _; omega) hok.s_pos T _ (HR.out.keep hB2).gen).mono ?_
  rintro e w3 ⟨v, rfl, hb3, hO⟩
  have hB3 := hB2.trans (hb3.mono hB2.size)
  obtain ⟨gc, cc, rfl, hgc⟩ : ∃ g c, v = .slice (some ⟨g, 0, none⟩) m.s c ∧ ∀ q, q < m.s → w3.cell? ⟨g, q, none⟩ = some (.int .i64 (m.tbl.fin q)) := by
    have hp : 0 < (finL m.tbl).length := by rw [finL_len]; exact hok.s_pos
    obtain ⟨g, c, e, hlt, hge, hcell⟩ := own_form hO hp
    rw [finL_len] at e
    refine ⟨g, c, e, fun i hi => ?_⟩
    have := hcell i (.int .i64 ((finL m.tbl)[i]?.getD 0)) (i64s_get (by rw [finL_len]; exact hi))
    rwa [finL_get m.tbl hi] at this
  have HGC := Lib.hid hgc
  refine hK.out _ _ (.inl (HSM.out _ hB3)) (fun hU => ?_)
  clear hK K hB2 hO hgc
  (try simp only [Act.put, List.setIfInBounds_toArray, List.set_cons_zero, List.set_cons_succ])
  refine AnyS.branch (rs := [5]) (by kernel_rfl) (by simp) (AllS.cons rfl (fun K hK => ?_) AllS.nil)
  go_simp
  refine (tableTrivial_any T m hwf hok _ (HR.out.keep hB3)).mono ?_
  rintro e w4 ⟨g, rfl, hb4, hB⟩
  have hB4 := hB3.trans (hb4.mono hB3.size)
  have HBT := Lib.hid hB
  have HB4 := Lib.hid hb4
  refine hK.out _ _ (.inl (HSM.out _ hB4)) (fun hU => ?_)
  clear hK K hB3 hB
  (try simp only [Act.put, List.setIfInBounds_toArray, List.set_cons_zero, List.set_cons_succ])
  have HBG := Lib.hid (builtG hwf hok (some ⟨gc, 0, none⟩) (some ⟨g, 0, none⟩) m.s m.s cc m.s)
  refine AnyS.take (i := 6) rfl (by kernel_rfl) (by kernel_rfl) (by kernel_rfl) (by rfl) (fun _ _ _ h => h) (by rfl) (fun w => run_bld rfl HBG.out rfl) hU (fun hU => ?_)
  (try simp only [Act.put, List.setIfInBounds_toArray, List.set_cons_zero, List.set_cons_succ])
  refine AnyS.branch (rs := [7]) (by kernel_rfl) (by simp) (AllS.cons rfl (fun K hK => ?_) AllS.nil)
  go_simp
  refine hK.out _ _ (.inl (HSM.out _ (hB4.alloc hB4.size _))) (fun hU => ?_)
  clear hK K
  (try simp only [Act.put, List.setIfInBounds_toArray, List.set_cons_zero, List.set_cons_succ])
  (refine AnyS.take (i := 8) rfl (by kernel_rfl) (by kernel_rfl) (by kernel_rfl) (by rfl) (fun _ _ _ h => h) (by rfl) (by intro w; go_simp; with_reducible rfl) hU (fun hU => ?_); (try simp only [Act.put, List.setIfInBounds_toArray, List.set_cons_zero, List.set_cons_succ]))
  refine AnyS.done (by kernel_rfl) ?_ _
  clear hU
  have HBB := Lib.hid (hbb1.trans ((hB4.alloc hB4.size (.cells (gcells m (.slice (some ⟨gc, 0, none⟩) m.s cc) (.slice (some ⟨g, 0, none⟩) m.s m.s)).toArray 133)).mono hbb1.size))
  have HGR : Hid (GrpR (w4.alloc (.cells (gcells m (.slice (some ⟨gc, 0, none⟩) m.s cc) (.slice (some ⟨g, 0, none⟩) m.s m.s)).toArray 133)) w4.heap.size m) := by
    have hl1 := Mch.cells_length hwf
    have hl2 := Mch.cells_length (invM_wf hok hwf)
    have hN := Blk.new w4 (gcells m (.slice (some ⟨gc, 0, none⟩) m.s cc) (.slice (some ⟨g, 0, none⟩) m.s m.s)).toArray 133
    have hA : Below w4.heap.size w4 (w4.alloc (.cells (gcells m (.slice (some ⟨gc, 0, none⟩) m.s cc) (.slice (some ⟨g, 0, none⟩) m.s m.s)).toArray 133)) := (Below.refl _ _).alloc (Nat.le_refl _) _
    have K : ∀ {b i : Nat} {v : Value}, w4.cell? ⟨b, i, none⟩ = some v → (w4.alloc (.cells (gcells m (.slice (some ⟨gc, 0, none⟩) m.s cc) (.slice (some ⟨g, 0, none⟩) m.s m.s)).toArray 133)).cell? ⟨b, i, none⟩ = some v := fun h => (hA.cell (World.block_lt_of_cell? w4 _ h)).trans h
    refine ⟨hN.range 0 _ (fun j v hj => ?_), hN.range 98 _ (fun j v hj => ?_), ⟨gc, cc, hN.cell' ?_, fun q hq => ?_⟩, ⟨g, m.s, hN.cell' ?_, fun q hq => ?_⟩⟩
    · have : j < m.cells.length := (List.getElem?_eq_some_iff.1 hj).1
      simp only [gcells, List.toList_toArray, Nat.zero_add]
      rw [List.getElem?_append_left this]; exact hj
    · have : j < (invM m).cells.length := (List.getElem?_eq_some_iff.1 hj).1
      simp only [gcells, List.toList_toArray]
      rw [List.getElem?_append_right (by omega), hl1, show 98 + j - 98 = j by omega, List.getElem?_append_left this]; exact hj
    · simp only [gcells, List.toList_toArray]
      rw [List.getElem?_append_right (by omega), hl1, List.getElem?_append_right (by omega), hl2]; rfl
    · have h1 := HGC.out q hq
      exact K ((HB4.out.cell (p := ⟨gc, q, none⟩) (World.block_lt_of_cell? w3 _ h1)).trans h1)
    · simp only [gcells, List.toList_toArray]
      rw [List.getElem?_append_right (by omega), hl1, List.getElem?_append_right (by omega), hl2]; rfl
    · exact K (HBT.out.cell' (bvs_get (trivB m) hq))
  go_wp2_with fail
  go_ret
  exact ⟨_, rfl, HBB.out, HGR.out⟩
end Go.Proofs.Yteagecoiijhflaa

/- The program's group: apply, normal, at, leaves. -/
namespace Go.Proofs.Yteagecoiijhflaa
open Go.RowKit
set_option linter.unusedVariables false
set_option linter.unusedSimpArgs false

theorem on_any (b o : Nat) (m : Mch) (hwf : m.Wf) (hok : m.Ok) (q x : Nat) (hq : q < m.s) (hx : x < m.l) (w : World) (hm : MAt w b o m) :
    Calls Try.prog 133 #[.pointer (some ⟨b, o, none⟩), .int .i64 (q : Int), .int .i64 (x : Int)] w fun e w' => e = .returned (.int .i64 (m.on q x : Int)) ∧ w' = w := by
  have h3 := hok.l_le
  have h16 := hok.s_le
  have := out_any b o m hwf q x (by omega) (by omega) w hm
  rw [Int.toNat_natCast, Int.toNat_natCast, hok.o_eq hwf hq hx] at this
  exact this.mono fun e w' h => ⟨h.1, h.2.symm⟩
theorem nn_any (b o : Nat) (m : Mch) (hwf : m.Wf) (hok : m.Ok) (q x : Nat) (hq : q < m.s) (hx : x < m.l) (w : World) (hm : MAt w b o m) :
    Calls Try.prog 132 #[.pointer (some ⟨b, o, none⟩), .int .i64 (q : Int), .int .i64 (x : Int)] w fun e w' => e = .returned (.int .i64 (m.nn q x : Int)) ∧ w' = w := by
  have h3 := hok.l_le
  have h16 := hok.s_le
  have := next_any b o m hwf q x (by omega) (by omega) w hm
  rw [Int.toNat_natCast, Int.toNat_natCast, hok.n_eq hwf hq hx] at this
  exact this.mono fun e w' h => ⟨h.1, h.2.symm⟩

set_option maxRecDepth 100000 in
set_option maxHeartbeats 1000000 in
theorem apply_any (G : Nat) (m : Mch) (hwf : m.Wf) (hok : m.Ok) (k : Int) (hk : k ≠ 0 ∧ -(m.s : Int) ≤ k ∧ k ≤ m.s) (x : Nat) (hx : x < m.l) (w : World) (hG : GrpR w G m) :
    Calls Try.prog 128 #[.pointer (some ⟨G, 0, none⟩), .int .i64 k, .int .i64 (x : Int)] w (RetQ (.tuple #[.int .i64 (stpX m k x), .int .i64 (stpK m k x)]) w) := by
  have h16 := hok.s_le
  have hq := stN_lt hk
  by_cases h0 : 0 < k
  · obtain ⟨j, hj⟩ : ∃ j : Nat, k = (j : Int) + 1 := ⟨(k - 1).toNat, by omega⟩
    have ej : stN k = j := by simp only [stN]; omega
    have HX : Hid (stpX m k x = m.on j x) := by show _ = _; rw [stpX, if_pos h0, ej]
    have HK : Hid (stpK m k x = (m.nn j x : Int) + 1) := by show _ = _; rw [stpK, if_pos h0, ej]
    rw [ej] at hq
    have hn := hok.nn_lt hwf hq hx
    have HO : Hid (∀ n, Calls Try.prog 133 #[.pointer (some ⟨G, 0, none⟩), .int .i64 (j : Int), .int .i64 (x : Int)] (w.drewN n) fun e w' => e = .returned (.int .i64 (m.on j x : Int)) ∧ w' = w.drewN n) := fun n => on_any G 0 m hwf hok j x hq hx _ (hG.mach.drewN n)
    have HN : Hid (∀ n, Calls Try.prog 132 #[.pointer (some ⟨G, 0, none⟩), .int .i64 (j : Int), .int .i64 (x : Int)] (w.drewN n) fun e w' => e = .returned (.int .i64 (m.nn j x : Int)) ∧ w' = w.drewN n) := fun n => nn_any G 0 m hwf hok j x hq hx _ (hG.mach.drewN n)
    rw [HX.out, HK.out]
    subst hj
    clear hk ej HX HK hG
    generalize m.on j x = Y at *
    generalize m.nn j x = Z at *
    have e1 : IntKind.i64.wrap ((j : Int) + 1 - 1) = (j : Int) := by rw [IntWalk.i64_in _ (by omega)]; omega
    have e2 : IntKind.i64.wrap ((Z : Int) + 1) = (Z : Int) + 1 := by rw [IntWalk.i64_in _ (by omega)]
    go_enter Try.func128, Try.ntmps128
    go_wp2_with fail
    go_quiet ((first | (go_at_call 133; exact Calls.quiet_of_same (HO.out _)) | (go_at_call 132; exact Calls.quiet_of_same (HN.out _))))
    go_wp2_with fail
    go_ret2
    exact retQ1 rfl _
  · obtain ⟨j, hj⟩ : ∃ j : Nat, k = -((j : Int) + 1) := ⟨(-k - 1).toNat, by omega⟩
    have ej : stN k = j := by simp only [stN]; omega
    have HX : Hid (stpX m k x = (invM m).on j x) := by show _ = _; rw [stpX, if_neg h0, ej, invM_on hok (by omega) hx]
    have HK : Hid (stpK m k x = -((invM m).nn j x : Int) - 1) := by show _ = _; rw [stpK, if_neg h0, ej, invM_nn hok (by omega) hx]
    rw [ej] at hq
    have hwi := invM_wf hok hwf
    have hoi := invM_ok hok hwf
    have hn := hoi.nn_lt hwi hq hx
    rw [invM_s] at hn
    have HO : Hid (∀ n, Calls Try.prog 133 #[.pointer (some ⟨G, 98, none⟩), .int .i64 (j : Int), .int .i64 (x : Int)] (w.drewN n) fun e w' => e = .returned (.int .i64 ((invM m).on j x : Int)) ∧ w' = w.drewN n) := fun n => on_any G 98 (invM m) hwi hoi j x hq hx _ (hG.back.drewN n)
    have HN : Hid (∀ n, Calls Try.prog 132 #[.pointer (some ⟨G, 98, none⟩), .int .i64 (j : Int), .int .i64 (x : Int)] (w.drewN n) fun e w' => e = .returned (.int .i64 ((invM m).nn j x : Int)) ∧ w' = w.drewN n) := fun n => nn_any G 98 (invM m) hwi hoi j x hq hx _ (hG.back.drewN n)
    rw [HX.out, HK.out]
    subst hj
    clear hk ej HX HK hG hwi hoi
    generalize (invM m).on j x = Y at *
    generalize (invM m).nn j x = Z at *
    have e1 : IntKind.i64.wrap (-(-((j : Int) + 1))) = (j : Int) + 1 := by rw [IntWalk.i64_in _ (by omega)]; omega
    have e2 : IntKind.i64.wrap ((j : Int) + 1 - 1) = (j : Int) := by rw [IntWalk.i64_in _ (by omega)]; omega
    have e3 : IntKind.i64.wrap (-(Z : Int)) = -(Z : Int) := by rw [IntWalk.i64_in _ (by omega)]
    have e4 : IntKind.i64.wrap (-(Z : Int) - 1) = -(Z : Int) - 1 := by rw [IntWalk.i64_in _ (by omega)]
    go_enter Try.func128, Try.ntmps128
    go_wp2_with fail
    go_quiet ((first | (go_at_call 133; exact Calls.quiet_of_same (HO.out _)) | (go_at_call 132; exact Calls.quiet_of_same (HN.out _))))
    go_wp2_with fail
    go_ret2
    exact retQ1 rfl _

/-- a slice of one's own cut shorter -/
theorem ownsRow_cut {w : World} {B E : Nat} {v : Value} {xs : List Value} {n : Nat} (h : w.ownsRow B E 1 v n xs) {g c k : Nat} (hv : v = .slice (some ⟨g, 0, none⟩) n c) (hk : k ≤ n) : w.ownsRow B E 1 (.slice (some ⟨g, 0, none⟩) k c) k (xs.take k) := by
  have hl := h.1
  rcases h.2 with ⟨e, _⟩ | ⟨g', cap, cur, e, h1, h2, h3, h4, h5, h6⟩
  · rw [hv] at e; cases e
  · rw [hv] at e
    injection e with e1 e2 e3
    injection e1 with e1
    injection e1 with e1
    subst e1 e3
    refine ⟨by rw [List.length_take]; omega, .inr ⟨g, c, cur, rfl, h1, h2, by omega, h4, h5, ?_⟩⟩
    rw [← h6, List.take_take]
    congr 1
    omega
theorem own_cap {w : World} {B E : Nat} {v : Value} {xs : List Value} {n : Nat} (h : w.ownsRow B E 1 v n xs) : ∀ a n' c, v = .slice a n' c → n ≤ c := by
  intro a n' c hv
  rcases h.2 with ⟨e, h0⟩ | ⟨g', cap, cur, e, h1, h2, h3, h4, h5, h6⟩
  · omega
  · rw [hv] at e; injection e with e1 e2 e3; omega
theorem Mm.cut {B : Nat} {w0 w : World} {L : List (Nat × List Value × TypeId)} {v : Value} {E : TypeId} {xs : List Value} {G : List (Value × TypeId × List Value)} (h : Mm B w0 w L ((v, E, xs) :: G)) {g c k : Nat} (hv : v = .slice (some ⟨g, 0, none⟩) xs.length c) (hk : k ≤ xs.length) :
    Mm B w0 w L ((.slice (some ⟨g, 0, none⟩) k c, E, xs.take k) :: G) := by
  have ho := h.own _ (List.mem_cons_self ..)
  have hc := ownsRow_cut ho hv hk
  have hgd := List.pairwise_cons.1 h.gdist
  refine ⟨h.below, h.size, h.blk, h.dist, fun x hx => ?_, fun x hx y hy => ?_, List.pairwise_cons.2 ⟨fun y hy b e => ?_, hgd.2⟩⟩
  · rcases List.mem_cons.1 hx with rfl | hx
    · have : (xs.take k).length = k := by rw [List.length_take]; omega
      simp only [this]
      exact hc
    · exact h.own x (List.mem_cons_of_mem _ hx)
  · rcases List.mem_cons.1 hx with rfl | hx
    · have := h.sep _ (List.mem_cons_self ..) y hy
      rw [hv] at this
      exact this
    · exact h.sep x (List.mem_cons_of_mem _ hx) y hy
  · refine hgd.1 y hy b ?_
    rw [hv]; exact e

set_option maxRecDepth 100000 in
set_option maxHeartbeats 4000000 in
theorem normal_any (G : Nat) (m : Mch) (hwf : m.Wf) (hok : m.Ok) (a : Option Addr) (g : Wd) (c : Nat) (hg : GW m g) (hl : g.length ≤ 1000) (w : World) (hG : GrpR w G m) (hI : IntsAt w a g) :
    Calls Try.prog 98 #[.pointer (some ⟨G, 0, none⟩), .slice a g.length c] w fun e w' => ∃ v, e = .returned v ∧ Below w.heap.size w w' ∧ OwnI w' w.heap.size v (nrm m g) := by
  obtain ⟨i0, hi, hz0, hz1, hz2⟩ := info_parts Try.info2
  have h16 := hok.s_le
  obtain ⟨gc, cc, c1, c2⟩ := hG.cls
  obtain ⟨gt, ct, t1, t2⟩ := hG.trv
  have HC1 := Lib.hid c1
  have HC2 := Lib.hid c2
  have HT1 := Lib.hid t1
  have HT2 := Lib.hid t2
  have HI := Lib.hid hI
  have HGW := Lib.hid hg
  have hM0 := (Mm.start w).addNil 2
  clear hG hI c1 c2 t1 t2 hg
  go_enter Try.func98, Try.ntmps98
  go_wp2_with fail
  go_loopw [5, 13] (fun v i wr => ∃ j : Nat, j ≤ g.length ∧ i = .int .i64 j ∧ Mm w.heap.size w wr [] [(v, 2, i64s (nrm m (g.take j)))]) (fun _ i _ => g.length - (intOf i).toNat)
  case atStart => exact ⟨0, Nat.zero_le _, rfl, by simpa [nrm, i64s] using hM0⟩
  case round =>
    clear hM0
    obtain ⟨j, hj, rfl, hM⟩ := hrel
    by_cases hlt : j < g.length
    · have K : ∀ {b i : Nat} {v : Value}, w.cell? ⟨b, i, none⟩ = some v → wr.cell? ⟨b, i, none⟩ = some v := fun h => (hM.below.cell (World.block_lt_of_cell? w _ h)).trans h
      obtain ⟨b, off, rfl, e1⟩ := HI.out j hlt
      have e1 := K e1
      have hk := HGW.out.at hlt
      have hq := stN_lt hk
      have e2 := K HC1.out
      have e3 := K (HC2.out _ hq)
      have e4 := K HT1.out
      have e5 := K (HT2.out _ hq)
      have HN := Lib.hid (nrm_snoc m (g.take j) (g[j]?.getD 0))
      rw [← take_snocI hlt, nstep] at HN
      have hsg : (g[j]?.getD 0 = (stN (g[j]?.getD 0) : Int) + 1 ∧ nkey m (g[j]?.getD 0) = (m.tbl.fin (stN (g[j]?.getD 0)) : Int) + 1) ∨ (g[j]?.getD 0 = -((stN (g[j]?.getD 0) : Int) + 1) ∧ nkey m (g[j]?.getD 0) = -((m.tbl.fin (stN (g[j]?.getD 0)) : Int) + 1)) := by
        simp only [nkey, stN]
        by_cases h : g[j]?.getD 0 < 0
        · rw [if_pos h]; right; exact ⟨by omega, rfl⟩
        · rw [if_neg h]; left; exact ⟨by omega, rfl⟩
      have hnl := nrm_len m (g.take j)
      rw [List.length_take] at hnl
      have hfl := m.tbl.fin_le (stN (g[j]?.getD 0))
      have i1 : (0 : Int) ≤ (j : Int) := by omega
      have i2 : (j : Int) < (g.length : Int) := by omega
      generalize stN (g[j]?.getD 0) = q at *
      generalize nkey m (g[j]?.getD 0) = nk at *
      generalize g[j]?.getD 0 = k at *
      generalize m.tbl.fin q = f at *
      obtain ⟨o, ho⟩ : ∃ o, o = nrm m (g.take j) := ⟨_, rfl⟩
      rw [← ho] at hM HN hnl
      have i3 : (0 : Int) ≤ (q : Int) := by omega
      have i4 : (q : Int) < (m.s : Int) := by omega
      have i5 : (0 : Int) ≤ (f : Int) := by omega
      have i6 : (f : Int) ≤ 16 := by omega
      clear ho K hk
      by_cases ht : trivB m q = true
      · rw [if_pos ht] at HN
        rw [ht] at e5
        clear ht
        rcases hsg with ⟨rfl, rfl⟩ | ⟨rfl, rfl⟩
        all_goals
          go_wp2_with fail
          go_roundw
          case rel => exact ⟨j + 1, by omega, by go_num, by rw [HN.out]; exact hM⟩
          case measure => simp [intOf] <;> omega
      · rw [if_neg ht] at HN
        have ht' : trivB m q = false := by simpa using ht
        rw [ht'] at e5
        clear ht ht'
        by_cases hz : o = []
        · subst hz
          have HS : Hid (nrm m (g.take (j + 1)) = [nk]) := by show _ = _; rw [HN.out, if_neg (by simp)]; rfl
          have hO := hM.own _ (List.mem_cons_self ..)
          obtain ⟨av, cv, rfl⟩ : ∃ av cv, u5 = .slice av 0 cv := by
            rcases hO.2 with ⟨e, _⟩ | ⟨g', cap, cur, e, _⟩
            · exact ⟨_, _, e⟩
            · exact ⟨_, _, e⟩
          clear HN hO
          rcases hsg with ⟨rfl, rfl⟩ | ⟨rfl, rfl⟩
          all_goals
            go_wp2_with (at_builtin; refine Mm.append rfl (.tmp 59) (.tmp 61) 26 rfl hM 0 rfl Try.underlying26 hi hz0 hz1 hz2 rfl rfl rfl rfl (by simp [i64s]) (by omega) ?_)
            intro g' cap' w3 hM3
            have HM3 : Hid (Mm w.heap.size w w3 [] [(.slice (some ⟨g', 0, none⟩) ((i64s []).length + 1) cap', 2, i64s (nrm m (g.take (j + 1))))]) := by
              rw [HS.out]; show Mm _ _ _ _ _; simpa [i64s] using hM3
            clear hM hM3
            go_wp2_with fail
            go_roundw
            case rel => exact ⟨j + 1, by omega, by go_num, HM3.out⟩
            case measure => simp [intOf] <;> omega
        · obtain ⟨o', z, rfl⟩ : ∃ o' z, o = o' ++ [z] := ⟨o.dropLast, o.getLast hz, (List.dropLast_concat_getLast hz).symm⟩
          have hol : o'.length ≤ 1000 := by rw [List.length_append] at hnl; simp at hnl; omega
          have hO := hM.own _ (List.mem_cons_self ..)
          simp only at hO
          have hcap := own_cap hO
          obtain ⟨gv, cv, rfl, -, -, hcl⟩ := own_form hO (by simp [i64s])
          have hcap : o'.length ≤ cv := by have := hcap _ _ _ rfl; simp [i64s] at this; omega
          have hln : (i64s (o' ++ [z])).length = o'.length + 1 := by simp [i64s]
          rw [hln] at hM ⊢
          have e6 := hcl o'.length (.int .i64 z) (by simp [i64s])
          have hzb : (0 : Int) ≤ (o'.length : Int) := by omega
          clear hcl hO hz
          by_cases hc : z = -nk
          · have HS : Hid (nrm m (g.take (j + 1)) = o') := by show _ = _; rw [HN.out, if_pos (by simp [hc]), List.dropLast_concat]
            have hM2 := hM.cut (g := gv) (c := cv) (k := o'.length) (by rw [hln]) (by simp [i64s])
            have HM2 : Hid (Mm w.heap.size w wr [] [(.slice (some ⟨gv, 0, none⟩) o'.length cv, 2, i64s (nrm m (g.take (j + 1))))]) := by
              rw [HS.out]; show Mm _ _ _ _ _; simpa [i64s] using hM2
            clear HN hM hM2 hln
            subst hc
            rcases hsg with ⟨rfl, rfl⟩ | ⟨rfl, rfl⟩
            all_goals
              go_wp2_with fail
              go_roundw
              case rel => exact ⟨j + 1, by omega, by go_num, HM2.out⟩
              case measure => simp [intOf] <;> omega
          · have HS : Hid (nrm m (g.take (j + 1)) = (o' ++ [z]) ++ [nk]) := by show _ = _; rw [HN.out, if_neg (by simpa using hc)]
            have hc1 : (z == -nk) = false := by simpa using hc
            have hil : (i64s (o' ++ [z])).length ≤ 1000000 := by simp [i64s]; omega
            clear HN hln hc
            rcases hsg with ⟨rfl, rfl⟩ | ⟨rfl, rfl⟩
            all_goals
              try simp only [Int.neg_neg] at hc1
              go_wp2_with (at_builtin; refine Mm.append rfl (.tmp 59) (.tmp 61) 26 rfl hM 0 rfl Try.underlying26 hi hz0 hz1 hz2 rfl rfl rfl rfl hil (by omega) ?_)
              intro g' cap' w3 hM3
              have HM3 : Hid (Mm w.heap.size w w3 [] [(.slice (some ⟨g', 0, none⟩) ((i64s (o' ++ [z])).length + 1) cap', 2, i64s (nrm m (g.take (j + 1))))]) := by
                rw [HS.out]; show Mm _ _ _ _ _; simpa [i64s] using hM3
              clear hM hM3
              go_wp2_with fail
              go_roundw
              case rel => exact ⟨j + 1, by omega, by go_num, HM3.out⟩
              case measure => simp [intOf] <;> omega
    · have hj' : j = g.length := by omega
      subst hj'
      rw [List.take_length] at hM
      have ho : Hid (OwnI wr w.heap.size u5 (nrm m g)) := OwnI.of_row (hM.own _ (List.mem_cons_self ..))
      have hb := hM.below
      clear hM
      go_wp2_with fail
      go_ret
      exact ⟨_, rfl, hb, ho.out⟩
end Go.Proofs.Yteagecoiijhflaa

/- The program's group: at, leaves, key. -/
namespace Go.Proofs.Yteagecoiijhflaa
open Go.RowKit
set_option linter.unusedVariables false
set_option linter.unusedSimpArgs false

/-- the section as far as it is made -/
def ldP (m : Mch) (g : Wd) (x j : Nat) : Wd := ledS m (g.take j) x ++ List.replicate (g.length - j) 0
theorem ldP_len (m : Mch) (g : Wd) (x j : Nat) (h : j ≤ g.length) : (ldP m g x j).length = g.length := by simp [ldP, ledS_len]; omega
theorem ldP_zero (m : Mch) (g : Wd) (x : Nat) : ldP m g x 0 = List.replicate g.length 0 := by simp [ldP, ledS]
theorem ldP_all (m : Mch) (g : Wd) (x : Nat) : ldP m g x g.length = ledS m g x := by simp [ldP]
theorem ldP_set (m : Mch) (g : Wd) (x j : Nat) (h : j < g.length) : (i64s (ldP m g x j)).set j (.int .i64 (stpK m (g[j]?.getD 0) (ledX m (g.take j) x))) = i64s (ldP m g x (j + 1)) := by
  have hl : (ledS m (g.take j) x).length = j := by rw [ledS_len, List.length_take]; omega
  simp only [ldP, i64s, take_snocI h, ledS_append, List.map_append]
  rw [List.set_append_right _ _ (by rw [List.length_map, hl]; omega), List.append_assoc]
  congr 1
  rw [List.length_map, hl, Nat.sub_self, show g.length - j = (g.length - (j + 1)) + 1 by omega, List.replicate_succ, List.map_cons, List.set_cons_zero]
  rfl
theorem ledX_take (m : Mch) (g : Wd) (x j : Nat) (h : j < g.length) : ledX m (g.take (j + 1)) x = stpX m (g[j]?.getD 0) (ledX m (g.take j) x) := by
  rw [take_snocI h, ledX_append]; rfl

set_option maxRecDepth 100000 in
set_option maxHeartbeats 4000000 in
theorem at_any (G : Nat) (m : Mch) (hwf : m.Wf) (hok : m.Ok) (a : Option Addr) (g : Wd) (c : Nat) (hg : GW m g) (hl : g.length ≤ 1000) (x : Nat) (hx : x < m.l) (w : World) (hG : GrpR w G m) (hI : IntsAt w a g) :
    Calls Try.prog 96 #[.pointer (some ⟨G, 0, none⟩), .slice a g.length c, .int .i64 (x : Int)] w fun e w' => ∃ v, e = .returned (.tuple #[.int .i64 (ledX m g x : Int), v]) ∧ Below w.heap.size w w' ∧ OwnI w' w.heap.size v (ledS m g x) := by
  have h16 := hok.s_le
  have HG := Lib.hid hG
  have HI := Lib.hid hI
  have HGW := Lib.hid hg
  have hmk := mkI g.length (by omega) w
  have hM0 := (Mm.start w).alloc (madeCells #[.int .i64 0] g.length) 2
  rw [madeI, ← ldP_zero m g x] at hM0
  clear hG hI hg
  go_enter Try.func96, Try.ntmps96
  go_wp2_with fail
  clear hmk
  go_loopw [2, 16] (fun y i wr => ∃ j : Nat, j ≤ g.length ∧ i = .int .i64 j ∧ y = .int .i64 (ledX m (g.take j) x : Int) ∧ Mm w.heap.size w wr [(w.heap.size, i64s (ldP m g x j), 2)] []) (fun _ i _ => g.length - (intOf i).toNat)
  case atStart => exact ⟨0, Nat.zero_le _, rfl, rfl, hM0⟩
  case round =>
    clear hM0
    obtain ⟨j, hj, rfl, rfl, hM⟩ := hrel
    by_cases hlt : j < g.length
    · obtain ⟨b, off, rfl, e1⟩ := HI.out j hlt
      have e1 := (hM.below.cell (World.block_lt_of_cell? w _ e1)).trans e1
      have hk := HGW.out.at hlt
      have hB := hM.at 0 rfl
      have c1 := hB.cell' (i64s_get (xs := ldP m g x j) (i := j) (by rw [ldP_len m g x j (by omega)]; exact hlt))
      have f1 := hB.free j
      have hy : ledX m (g.take j) x < m.l := ledX_lt hok hwf (HGW.out.sub fun k hk => List.mem_of_mem_take hk) hx
      have HSET : Hid (∀ n, Mm w.heap.size w ((wr.drewN n).setCell ⟨w.heap.size, j, none⟩ (.int .i64 (stpK m (g[j]?.getD 0) (ledX m (g.take j) x)))) [(w.heap.size, i64s (ldP m g x (j + 1)), 2)] []) := fun n => by
        have := (hM.drewN n).setCell 0 rfl j (.int .i64 (stpK m (g[j]?.getD 0) (ledX m (g.take j) x)))
        simpa only [List.set_cons_zero, ldP_set m g x j hlt] using this
      have HX := Lib.hid (ledX_take m g x j hlt)
      have HAP := Lib.hid (apply_any G m hwf hok (g[j]?.getD 0) hk (ledX m (g.take j) x) hy wr (HG.out.keep hM.below))
      have i1 : (0 : Int) ≤ (j : Int) := by omega
      have i2 : (j : Int) < (g.length : Int) := by omega
      clear hM hB hk hy
      generalize (ldP m g x j)[j]?.getD 0 = z at *
      generalize g[j]?.getD 0 = k at *
      generalize ledX m (g.take j) x = y at *
      go_wp2_with fail
      refine HAP.out.mono ?_
      rintro e w1 ⟨rfl, n, rfl⟩
      have HS := Lib.hid (HSET.out n)
      clear HSET HAP e1
      go_wp2_with fail
      go_roundw
      case rel => exact ⟨j + 1, by omega, by go_num, by rw [HX.out], HS.out⟩
      case measure => simp [intOf] <;> omega
    · have hj' : j = g.length := by omega
      subst hj'
      rw [ldP_all] at hM
      have hF := Lib.hid (hM.addOwn (List.mem_singleton.2 rfl) g.length (by simp [i64s, ledS_len]) (by omega))
      have HT : Hid (g.take g.length = g) := List.take_length
      clear hM
      go_wp2_with fail
      go_ret2
      rw [HT.out]
      exact ⟨_, rfl, hF.out.below, OwnI.of_row (by simpa [i64s, ledS_len] using hF.out.own _ (List.mem_cons_self ..))⟩
theorem leaves_upto {m : Mch} {g : Wd} {x : Nat} (h : ∀ y, y < x → ledX m g y = y) (hx : x = m.l) : leavesB m g = true := by
  subst hx
  simp only [leavesB, List.all_eq_true, List.mem_range, beq_iff_eq]
  exact h
theorem leaves_not {m : Mch} {g : Wd} {x : Nat} (hx : x < m.l) (h : ledX m g x ≠ x) : leavesB m g = false := by
  rw [leavesB, List.all_eq_false]
  exact ⟨x, by simpa using hx, by simpa using h⟩

set_option maxRecDepth 100000 in
set_option maxHeartbeats 1000000 in
theorem leaves_any (G : Nat) (m : Mch) (hwf : m.Wf) (hok : m.Ok) (a : Option Addr) (g : Wd) (c : Nat) (hg : GW m g) (hl : g.length ≤ 1000) (w : World) (hG : GrpR w G m) (hI : IntsAt w a g) :
    Calls Try.prog 101 #[.pointer (some ⟨G, 0, none⟩), .slice a g.length c] w (Ret (.bool (leavesB m g)) w) := by
  have HG := Lib.hid hG
  have HI := Lib.hid hI
  have cl := hG.mach.l
  rw [hok.L_eq] at cl
  have h3 := hok.l_le
  have HGW := Lib.hid hg
  clear hG hI hg
  go_enter Try.func101, Try.ntmps101
  go_wp2_with fail
  go_loopw [13] (fun i wr => ∃ x : Nat, x ≤ m.l ∧ i = .int .i64 x ∧ Below w.heap.size w wr ∧ Hid (∀ y, y < x → ledX m g y = y)) (fun i _ => m.l - (intOf i).toNat)
  case atStart => exact ⟨0, Nat.zero_le _, rfl, Below.refl _ _, fun y hy => by omega⟩
  case round =>
    clear cl
    obtain ⟨x, hx, rfl, hb, HA⟩ := hrel
    by_cases hlt : x < m.l
    · have HC := Lib.hid (at_any G m hwf hok a g c HGW.out hl x hlt wr (HG.out.keep hb) (HI.out.keep hb))
      have i1 : (x : Int) < (m.l : Int) := by omega
      go_wp2_with fail
      refine HC.out.mono ?_
      rintro e w1 ⟨v, rfl, hb1, -⟩
      have hbb := hb.trans (hb1.mono hb.size)
      by_cases e : ledX m g x = x
      · have HN : Hid (∀ y, y < x + 1 → ledX m g y = y) := fun y hy => by
          by_cases h : y = x
          · subst h; exact e
          · exact HA.out y (by omega)
        rw [e]
        clear e HC
        go_wp2_with fail
        go_roundw
        case rel => exact ⟨x + 1, by omega, by go_num, hbb, HN⟩
        case measure => simp [intOf] <;> omega
      · have HF := Lib.hid (leaves_not hlt e)
        generalize ledX m g x = y at *
        have e' : ((y : Int) != (x : Int)) = true := by simp; omega
        clear e HC
        go_wp2_with fail
        go_ret
        exact ⟨ret_bool HF.out.symm, hbb⟩
    · have HF := Lib.hid (leaves_upto HA.out (by omega))
      go_wp2_with fail
      go_ret
      exact ⟨ret_bool HF.out.symm, hb⟩

/-- the key of a word -/
def keyB (g : Wd) : ByteArray := strOfNums (g.map fun k => k + 100)
theorem keyB_size (g : Wd) : (keyB g).size = g.length := by simp [keyB, strOfNums_size]
theorem keyB_inj {m : Mch} (hok : m.Ok) : ∀ {g h : Wd}, GW m g → GW m h → keyB g = keyB h → g = h := by
  have h16 := hok.s_le
  have key : ∀ {g h : Wd}, GW m g → GW m h → g.map (fun k => UInt8.ofNat (k + 100).toNat) = h.map (fun k => UInt8.ofNat (k + 100).toNat) → g = h := by
    intro g
    induction g with
    | nil => intro h _ _ e; cases h with | nil => rfl | cons y t => simp at e
    | cons x g ih =>
      intro h hg hh e
      cases h with
      | nil => simp at e
      | cons y t =>
        simp only [List.map_cons, List.cons.injEq] at e
        have a := hg x (List.mem_cons_self ..)
        have b := hh y (List.mem_cons_self ..)
        have e1 := congrArg UInt8.toNat e.1
        rw [UInt8.toNat_ofNat', UInt8.toNat_ofNat'] at e1
        have e2 := ih (fun z hz => hg z (List.mem_cons_of_mem _ hz)) (fun z hz => hh z (List.mem_cons_of_mem _ hz)) e.2
        have e3 : x = y := by omega
        rw [e2, e3]
  intro g h hg hh e
  have := congrArg (fun s : ByteArray => s.data.toList) e
  simp only [keyB, strOfNums_data, List.map_map] at this
  exact key hg hh this
def kyP (g : Wd) (j : Nat) : List Int := (g.take j).map (fun k => k + 100) ++ List.replicate (g.length - j) 0
theorem kyP_set (g : Wd) (j : Nat) (h : j < g.length) : (u8s (kyP g j)).set j (.int .u8 (g[j]?.getD 0 + 100)) = u8s (kyP g (j + 1)) := by
  have hl : ((g.take j).map (fun k => k + 100)).length = j := by rw [List.length_map, List.length_take]; omega
  simp only [kyP, u8s, take_snocI h, List.map_append]
  rw [List.set_append_right _ _ (by rw [List.length_map, hl]; omega), List.append_assoc]
  congr 1
  rw [List.length_map, hl, Nat.sub_self, show g.length - j = (g.length - (j + 1)) + 1 by omega, List.replicate_succ, List.map_cons, List.set_cons_zero]
  rfl

set_option maxRecDepth 100000 in
set_option maxHeartbeats 1000000 in
theorem key_any (m : Mch) (hok : m.Ok) (a : Option Addr) (g : Wd) (c : Nat) (hg : GW m g) (hl : g.length ≤ 1000) (w : World) (hI : IntsAt w a g) :
    Calls Try.prog 131 #[.slice a g.length c] w (Ret (.string (keyB g)) w) := by
  have HI := Lib.hid hI
  have HGW := Lib.hid hg
  have h16 := hok.s_le
  have hmk := mk_u8 g.length (by omega) w
  have hM0 := (Mm.start w).alloc (madeCells #[.int .u8 0] g.length) 5
  rw [made_u8, show List.replicate g.length (0 : Int) = kyP g 0 by simp [kyP]] at hM0
  clear hI hg
  go_enter Try.func131, Try.ntmps131
  go_wp2_with fail
  clear hmk
  go_loopw [11] (fun i wr => ∃ j : Nat, j ≤ g.length ∧ i = .int .i64 j ∧ Mm w.heap.size w wr [(w.heap.size, u8s (kyP g j), 5)] []) (fun i _ => g.length - (intOf i).toNat)
  case atStart => exact ⟨0, Nat.zero_le _, rfl, hM0⟩
  case round =>
    clear hM0
    obtain ⟨j, hj, rfl, hM⟩ := hrel
    by_cases hlt : j < g.length
    · obtain ⟨b, off, rfl, e1⟩ := HI.out j hlt
      have e1 := (hM.below.cell (World.block_lt_of_cell? w _ e1)).trans e1
      have hk := HGW.out.at hlt
      have hB := hM.at 0 rfl
      have c1 := hB.cell' (u8s_get (xs := kyP g j) (i := j) (by simp [kyP]; omega))
      have f1 := hB.free j
      have hS := hM.setCell 0 rfl j (.int .u8 (g[j]?.getD 0 + 100))
      simp only [List.set_cons_zero, kyP_set g j hlt] at hS
      have HS := Lib.hid hS
      have i1 : (0 : Int) ≤ (j : Int) := by omega
      have i2 : (j : Int) < (g.length : Int) := by omega
      have i3 := hk.2.1
      have i4 := hk.2.2
      clear hM hB hk hS
      generalize (kyP g j)[j]?.getD 0 = z at *
      generalize g[j]?.getD 0 = k at *
      have i5 : -16 ≤ k := by omega
      have i6 : k ≤ 16 := by omega
      go_wp2_with fail
      go_roundw
      case rel => exact ⟨j + 1, by omega, by go_num, HS.out⟩
      case measure => simp [intOf] <;> omega
    · have hj' : j = g.length := by omega
      subst hj'
      rw [show kyP g g.length = g.map (fun k => k + 100) by simp [kyP]] at hM
      have hcv := run_convert_bytes_arg wr 106 5 Try.underlying106 Try.underlying5 w.heap.size 0 g.length g.length (g.map fun k => k + 100) (by simp) (fun i hi => by
        rw [Nat.zero_add]; exact (hM.at 0 rfl).cell' (u8s_get (by simpa using hi))) 9 Try.underlying9
      have hb := hM.below
      clear hM
      go_wp2_with fail
      go_ret
      exact ⟨rfl, hb⟩
end Go.Proofs.Yteagecoiijhflaa
