/- (*table).least. -/
import Derived.Test.YtmacnofkpdikiaaC3
namespace Go.Proofs.Ytmacnofkpdikiaa
open Go.RowKit
set_option linter.unusedVariables false
set_option linter.unusedSimpArgs false

def finL (t : Tbl) : List Int := (List.range t.n).map fun q => (t.fin q : Int)
theorem finL_len (t : Tbl) : (finL t).length = t.n := by simp [finL]
theorem finL_get (t : Tbl) {q : Nat} (h : q < t.n) : (finL t)[q]?.getD 0 = (t.fin q : Int) := by simp [finL, h]
theorem nvs_i64s (n : Nat) (f : Nat → Nat) : nvs n f = i64s ((List.range n).map fun q => (f q : Int)) := by simp [nvs, i64s]
/-- the first k states done -/
def upV (f : Nat → Nat) (k q : Nat) : Nat := if q < k then f q else 0
theorem upV_set (f : Nat → Nat) (k : Nat) : updN (upV f k) k (f k) = upV f (k + 1) := by
  funext q
  simp only [updN, upV]
  by_cases e : q = k
  · subst e; rw [if_pos rfl, if_pos (by omega)]
  · rw [if_neg e]
    by_cases h : q < k
    · rw [if_pos h, if_pos (by omega)]
    · rw [if_neg h, if_neg (by omega)]
theorem upV_all (f : Nat → Nat) (n : Nat) : nvs n (upV f n) = nvs n f := nvs_congr fun q hq => by simp [upV, hq]
theorem tot_cls_le (t : Tbl) (k n : Nat) : tot (t.cls k) n ≤ n * n := by
  have : ∀ j, j ≤ n → tot (t.cls k) j ≤ j * n := by
    intro j
    induction j with
    | zero => intro _; simp [tot]
    | succ j ih =>
      intro h
      have := ih (by omega)
      have := t.cls_le k j
      simp only [tot]
      rw [Nat.add_mul]; omega
  exact this n (Nat.le_refl _)
theorem tot_le_tot {f g : Nat → Nat} : ∀ n, (∀ q, q < n → f q ≤ g q) → tot f n ≤ tot g n
  | 0, _ => Nat.le_refl _
  | n + 1, h => by have := tot_le_tot n (fun q hq => h q (by omega)); have := h n (by omega); simp only [tot]; omega
theorem tot_lt_tot {f g : Nat → Nat} : ∀ n, (∀ q, q < n → f q ≤ g q) → (∃ q, q < n ∧ f q ≠ g q) → tot f n < tot g n
  | 0, _, ⟨q, hq, _⟩ => by omega
  | n + 1, h, ⟨q, hq, hne⟩ => by
    have h1 := h n (by omega)
    simp only [tot]
    by_cases e : q = n
    · subst e
      have := tot_le_tot q (fun p hp => h p (by omega))
      omega
    · have := tot_lt_tot n (fun p hp => h p (by omega)) ⟨q, by omega, hne⟩
      omega
theorem cls_same {t : Tbl} {k : Nat} (h : ((List.range t.n).all fun i => t.cls (k + 1) i == t.cls k i) = true) : t.St k := fun q hq => by
  rw [List.all_eq_true] at h
  simpa using h q (by simpa using hq)
theorem cls_differ {t : Tbl} {k : Nat} (h : ((List.range t.n).all fun i => t.cls (k + 1) i == t.cls k i) = false) : tot (t.cls k) t.n < tot (t.cls (k + 1)) t.n := by
  rw [List.all_eq_false] at h
  obtain ⟨q, hq, hne⟩ := h
  refine tot_lt_tot t.n (fun q _ => t.cls_mono k q) ⟨q, by simpa using hq, fun e => hne (by simp [e])⟩
theorem cls1_idx (t : Tbl) {q : Nat} (hq : q < t.n) : idxN (t.eqv 1 q) t.n = (t.cls 1 q : Int) :=
  idxN_hit (by have := t.cls_le 1 q; omega) (t.cls_eqv 1 q) (fun j hj => lst_min hj)

set_option maxRecDepth 100000 in
set_option maxHeartbeats 4000000 in
theorem least_any (t : Tbl) (hw : t.Wf) (hn : t.n ≤ 1000) (hd : t.d ≤ 100) (hn1 : 1 ≤ t.n) (T : Nat) (w : World) (hT : TabG w T t) :
    Calls Try.prog 89 #[.pointer (some ⟨T, 0, none⟩)] w fun e w' => ∃ v, e = .returned v ∧ Below w.heap.size w w' ∧ OwnI w' w.heap.size v (finL t) := by
  have hmf : ∀ (fn : Fn) (first cap : Array Value) (w : World), (Instr.makeFunc fn first cap).run Try.prog w = .ok (.func fn first cap) w := fun _ _ _ _ => rfl
  have HT := Lib.hid hT
  have hTw := hT.lt
  obtain ⟨gN, cN, gO, cO, t1, t2, t3, t4⟩ := id hT
  have hM0 := ((Mm.start w).alloc #[.pointer (some ⟨T, 0, none⟩)] 95).alloc (madeCells #[.int .i64 0] t.n) 2
  rw [show (w.alloc (.cells #[.pointer (some ⟨T, 0, none⟩)] 95)).heap.size = w.heap.size + 1 by simp, made_i64, show (nvs t.n fun _ => 0) = nvs t.n (upV (t.cls 1) 0) from nvs_congr fun q _ => by simp [upV]] at hM0
  have hmk := mk_i64 t.n (by omega) (w.alloc (.cells #[.pointer (some ⟨T, 0, none⟩)] 95))
  have T2 := Lib.hid t2
  have T4 := Lib.hid t4
  have hTO : T < w.heap.size := hTw
  clear hT t1 t3 t4
  go_enter Try.func89, Try.ntmps89
  go_wp2_with fail
  clear hmk t2
  go_loopw [19] (fun i wr => ∃ q : Nat, q ≤ t.n ∧ i = .int .i64 q ∧ Mm w.heap.size w wr [(w.heap.size + 1, nvs t.n (upV (t.cls 1) q), 2), (w.heap.size, [.pointer (some ⟨T, 0, none⟩)], 95)] []) (fun i _ => t.n - (intOf i).toNat)
  case atStart => exact ⟨0, Nat.zero_le _, rfl, hM0⟩
  case round =>
    clear hM0
    obtain ⟨q, hq, rfl, hM⟩ := hrel
    by_cases hlt : q < t.n
    · have hMa := hM.alloc #[.int .i64 (q : Int)] 3
      obtain ⟨wa, hwa⟩ : ∃ wa, wa = wr.alloc (.cells #[.int .i64 (q : Int)] 3) := ⟨_, rfl⟩
      obtain ⟨bq, hbq⟩ : ∃ bq, bq = wr.heap.size := ⟨_, rfl⟩
      rw [← hwa, ← hbq] at hMa
      have i1 : (0 : Int) ≤ (q : Int) := by omega
      have i2 : (q : Int) < (t.n : Int) := by omega
      have HS : Hid (∀ W cs, Mm w.heap.size w W [(bq, [.int .i64 (q : Int)], 3), (w.heap.size + 1, cs, 2), (w.heap.size, [.pointer (some ⟨T, 0, none⟩)], 95)] [] → (W.cell? ⟨bq, 0, none⟩ = some (.int .i64 (q : Int)) ∧ W.cell? ⟨w.heap.size, 0, none⟩ = some (.pointer (some ⟨T, 0, none⟩)) ∧ W.cell? ⟨T, 1, none⟩ = some (.slice (some ⟨gO, 0, none⟩) t.n cO))) := fun W cs h =>
        ⟨(h.at 0 rfl).cell' rfl, (h.at 2 rfl).cell' rfl, (h.below.cell (p := ⟨T, 1, none⟩) hTO).trans T2.out⟩
      have HIX : Hid (∀ W cs, Mm w.heap.size w W [(bq, [.int .i64 (q : Int)], 3), (w.heap.size + 1, cs, 2), (w.heap.size, [.pointer (some ⟨T, 0, none⟩)], 95)] [] → Calls Try.prog 116 #[.slice (some ⟨gO, 0, none⟩) t.n cO, .func (.func 117) #[] #[.pointer (some ⟨w.heap.size, 0, none⟩), .pointer (some ⟨bq, 0, none⟩)]] W (RetQ (.int .i64 (t.cls 1 q)) W)) := fun W cs h => by
        have hTW := HT.out.keep h.below
        have := indexFuncII_any 117 enters_least1 #[.pointer (some ⟨w.heap.size, 0, none⟩), .pointer (some ⟨bq, 0, none⟩)] gO t.n cO (by omega) (fun i => (W.cell? ⟨gO, i, none⟩).getD undef) (t.eqv 1 q) W
          (fun i hi => by
            obtain ⟨g, c, e, f⟩ := T4.out i hi
            have e' := (h.below.cell (p := ⟨gO, i, none⟩) (World.block_lt_of_cell? w _ e)).trans e
            rw [e']; rfl)
          (fun j i hi => by
            obtain ⟨g, c, e, f⟩ := T4.out i hi
            have e' := (h.below.cell (p := ⟨gO, i, none⟩) (World.block_lt_of_cell? w _ e)).trans e
            simp only [e', Option.getD_some]
            have hs := HS.out W cs h
            exact least1_any t hn hd T w.heap.size bq g c i q hlt (W.drewN j) hTW hs.2.1 hs.1 (fun x hx => (h.below.cell (p := ⟨g, x, none⟩) (World.block_lt_of_cell? w _ (f x hx))).trans (f x hx)))
        rwa [cls1_idx t hlt] at this
      have hmx : Try.prog.follows .mixedOrders = true := by kernel_rfl
      have HMX := Lib.hid hmx
      have HWA := Lib.hid hwa
      have HBQ := Lib.hid hbq
      clear hmx hM hbq hwa
      go_wp2_with fail
      rw [← HWA.out, ← HBQ.out]
      refine region_S (fun W => W.cell? ⟨bq, 0, none⟩ = some (.int .i64 (q : Int)) ∧ W.cell? ⟨w.heap.size, 0, none⟩ = some (.pointer (some ⟨T, 0, none⟩)) ∧ W.cell? ⟨T, 1, none⟩ = some (.slice (some ⟨gO, 0, none⟩) t.n cO)) [] 10 rfl HMX.out (HS.out _ _ hMa.drew) (fun hU => ?_)
      have hMW := hMa.drew
      obtain ⟨W, hW⟩ : ∃ W, W = wa.drew := ⟨_, rfl⟩
      rw [← hW] at hU hMW ⊢
      clear hW hMa
      (refine AnyS.take (i := 0) rfl (by kernel_rfl) (by kernel_rfl) (by kernel_rfl) (by rfl) (fun _ _ _ h => h) (by rfl) (by intro w; go_simp; with_reducible rfl) hU (fun hU => ?_); (try simp only [Act.put, List.setIfInBounds_toArray, List.set_cons_zero, List.set_cons_succ]))
      (refine AnyS.takeS (i := 1) rfl (by kernel_rfl) (by kernel_rfl) (by kernel_rfl) (by rfl) (by kernel_rfl) (by kernel_rfl) (fun _ _ _ h => h) (by rfl) (by intro W hSw; have h1 := hSw.1; clear hSw; go_simp; with_reducible rfl) hU (fun hU => ?_); (try simp only [Act.put, List.setIfInBounds_toArray, List.set_cons_zero, List.set_cons_succ]))
      (refine AnyS.takeS (i := 2) rfl (by kernel_rfl) (by kernel_rfl) (by kernel_rfl) (by rfl) (by kernel_rfl) (by kernel_rfl) (fun _ _ _ h => h) (by rfl) (by intro W hSw; have h1 := hSw.2.1; clear hSw; go_simp; with_reducible rfl) hU (fun hU => ?_); (try simp only [Act.put, List.setIfInBounds_toArray, List.set_cons_zero, List.set_cons_succ]))
      (refine AnyS.take (i := 3) rfl (by kernel_rfl) (by kernel_rfl) (by kernel_rfl) (by rfl) (fun _ _ _ h => h) (by rfl) (by intro w; go_simp; with_reducible rfl) hU (fun hU => ?_); (try simp only [Act.put, List.setIfInBounds_toArray, List.set_cons_zero, List.set_cons_succ]); refine AnyS.take (i := 4) rfl (by kernel_rfl) (by kernel_rfl) (by kernel_rfl) (by rfl) (fun _ _ _ h => h) (by rfl) (by intro w; go_simp; with_reducible rfl) hU (fun hU => ?_); (try simp only [Act.put, List.setIfInBounds_toArray, List.set_cons_zero, List.set_cons_succ]))
      (refine AnyS.takeS (i := 5) rfl (by kernel_rfl) (by kernel_rfl) (by kernel_rfl) (by rfl) (by kernel_rfl) (by kernel_rfl) (fun _ _ _ h => h) (by rfl) (by intro W hSw; have h1 := hSw.2.2; clear hSw; go_simp; with_reducible rfl) hU (fun hU => ?_); (try simp only [Act.put, List.setIfInBounds_toArray, List.set_cons_zero, List.set_cons_succ]))
      (refine AnyS.take (i := 6) rfl (by kernel_rfl) (by kernel_rfl) (by kernel_rfl) (by rfl) (fun _ _ _ h => h) (by rfl) (by intro w; go_simp; with_reducible rfl) hU (fun hU => ?_); (try simp only [Act.put, List.setIfInBounds_toArray, List.set_cons_zero, List.set_cons_succ]))
      refine AnyS.branch (rs := [7]) (by kernel_rfl) (by simp) (AllS.cons rfl (fun K hK => ?_) AllS.nil)
      go_simp
      refine (HIX.out _ _ hMW).mono ?_
      rintro e w4 ⟨rfl, a4, rfl⟩
      have hM4 := hMW.drewN a4
      refine hK.out _ _ (.inl (HS.out _ _ hM4)) (fun hU => ?_)
      clear hK K
      (try simp only [Act.put, List.setIfInBounds_toArray, List.set_cons_zero, List.set_cons_succ])
      (refine AnyS.take (i := 8) rfl (by kernel_rfl) (by kernel_rfl) (by kernel_rfl) (by rfl) (fun _ _ _ h => h) (by rfl) (by intro w; go_simp; with_reducible rfl) hU (fun hU => ?_); (try simp only [Act.put, List.setIfInBounds_toArray, List.set_cons_zero, List.set_cons_succ]))
      refine AnyS.branch (rs := [9]) (by kernel_rfl) (by simp) (AllS.cons rfl (fun K hK => ?_) AllS.nil)
      have c2 := (hM4.at 1 rfl).cell' (nvs_get (upV (t.cls 1) q) hlt)
      have f2 := (hM4.at 1 rfl).free q
      have hM5 := hM4.setCell 1 rfl q (.int .i64 (t.cls 1 q : Int))
      simp only [List.set_cons_zero, List.set_cons_succ] at hM5
      rw [nvs_set _ _ hlt, upV_set] at hM5
      have HM5 := Lib.hid hM5
      clear hM5 hMW hM4
      go_simp
      refine hK.out _ _ (.inl (HS.out _ _ HM5.out)) (fun hU => ?_)
      clear hK K c2 f2
      (try simp only [Act.put, List.setIfInBounds_toArray, List.set_cons_zero, List.set_cons_succ])
      refine AnyS.done (by kernel_rfl) ?_ _
      clear hU
      have HM6 := Lib.hid (HM5.out.sub (List.sublist_cons_self _ _))
      clear HM5
      go_wp2_with fail
      go_roundw
      case rel => exact ⟨q + 1, by omega, by go_num, HM6.out⟩
      case measure => simp [intOf] <;> omega
    · have hq' : q = t.n := by omega
      subst hq'
      rw [upV_all] at hM
      go_wp2_with fail
      go_loopg [3] (t.n * t.n) (fun gk v3 wr => ∃ k A : Nat, 1 ≤ k ∧ v3 = .slice (some ⟨A, 0, none⟩) t.n t.n ∧ Mm w.heap.size w wr [(A, nvs t.n (t.cls k), 2), (w.heap.size, [.pointer (some ⟨T, 0, none⟩)], 95)] [] ∧ Hid (t.n * t.n ≤ gk + tot (t.cls k) t.n))
      case atStart => exact ⟨1, _, Nat.le_refl _, rfl, hM, Nat.le_add_right _ _⟩
      case round =>
        clear hM
        obtain ⟨k, A, hk, rfl, hM, HG⟩ := hrel
        have hmk := mk_i64 t.n (by omega) wr
        have hM1 := hM.alloc (madeCells #[.int .i64 0] t.n) 2
        rw [made_i64, show (nvs t.n fun _ => 0) = nvs t.n (upV (t.cls (k + 1)) 0) from nvs_congr fun q _ => by simp [upV]] at hM1
        obtain ⟨A2, hA2⟩ : ∃ A2, A2 = wr.heap.size := ⟨_, rfl⟩
        rw [← hA2] at hM1
        have HA2 := Lib.hid hA2
        clear hM hA2
        go_wp2_with fail
        rw [← HA2.out]
        clear hmk
        go_loopw [6, 37] (fun s6 i wi => ∃ q : Nat, q ≤ t.n ∧ i = .int .i64 q ∧ s6 = .bool ((List.range q).all fun i => t.cls (k + 1) i == t.cls k i) ∧ Mm w.heap.size w wi [(A2, nvs t.n (upV (t.cls (k + 1)) q), 2), (A, nvs t.n (t.cls k), 2), (w.heap.size, [.pointer (some ⟨T, 0, none⟩)], 95)] []) (fun _ i _ => t.n - (intOf i).toNat)
        case atStart => exact ⟨0, Nat.zero_le _, rfl, rfl, hM1⟩
        case round =>
          clear hM1 HA2
          obtain ⟨q, hq, rfl, rfl, hM⟩ := hrel
          by_cases hqlt : q < t.n
          · have i1 : (0 : Int) ≤ (q : Int) := by omega
            have i2 : (q : Int) < (t.n : Int) := by omega
            have c1 := (hM.at 2 rfl).cell' (i := 0) rfl
            have c2 := (hM.at 0 rfl).cell' (nvs_get (upV (t.cls (k + 1)) q) hqlt)
            have f2 := (hM.at 0 rfl).free q
            have HLK : Hid (Calls Try.prog 119 #[.pointer (some ⟨T, 0, none⟩), .slice (some ⟨A, 0, none⟩) t.n t.n, .int .i64 q] wr (RetQ (.int .i64 (t.cls (k + 1) q)) wr)) :=
              like_any t hw hn hd T k hk (t.cls k) (fun _ _ => rfl) A q hqlt wr (HT.out.keep hM.below) (fun q hq => (hM.at 1 rfl).cell' (nvs_get (t.cls k) hq))
            have HX := Lib.hid (allUpto_succ (fun i => t.cls (k + 1) i == t.cls k i) q)
            generalize upV (t.cls (k + 1)) q q = old at *
            go_wp2_with fail
            refine HLK.out.mono ?_
            rintro e w1 ⟨rfl, a1, rfl⟩
            have hM1 := (hM.drewN a1).setCell 0 rfl q (.int .i64 (t.cls (k + 1) q : Int))
            simp only [List.set_cons_zero, List.set_cons_succ] at hM1
            rw [nvs_set _ _ hqlt, upV_set] at hM1
            have c3 := (hM1.at 0 rfl).cell' (nvs_get (upV (t.cls (k + 1)) (q + 1)) hqlt)
            rw [show upV (t.cls (k + 1)) (q + 1) q = t.cls (k + 1) q by simp [upV]] at c3
            have c4 := (hM1.at 1 rfl).cell' (nvs_get (t.cls k) hqlt)
            have HM1 := Lib.hid hM1
            clear hM hM1 HLK
            obtain ⟨u, hu⟩ : ∃ u, u = t.cls (k + 1) q := ⟨_, rfl⟩
            obtain ⟨v, hv⟩ : ∃ v, v = t.cls k q := ⟨_, rfl⟩
            rw [← hu] at c3 c4 HM1 HX
            rw [← hv] at c4 HX
            rw [← hu]
            have HU := Lib.hid hu
            have HV := Lib.hid hv
            clear hu hv c1
            have HY : Hid (((u : Int) == (v : Int)) = (u == v)) := by show _ = _; rw [Bool.eq_iff_iff]; simp; omega
            cases hs : (List.range q).all fun i => t.cls (k + 1) i == t.cls k i
            · rw [hs] at HX
              clear hs
              go_wp2_with fail
              go_quiet (fail)
              go_wp2_with fail
              go_roundw
              case rel => exact ⟨q + 1, by omega, by go_num, by rw [HX.out]; rfl, HM1.out.drewN _⟩
              case measure => simp [intOf] <;> omega
            · rw [hs] at HX
              clear hs
              go_wp2_with fail
              go_quiet (fail)
              go_wp2_with fail
              go_roundw
              case rel => exact ⟨q + 1, by omega, by go_num, by rw [HX.out, HY.out]; simp, HM1.out.drewN _⟩
              case measure => simp [intOf] <;> omega
          · have hq' : q = t.n := by omega
            subst hq'
            cases hs : (List.range t.n).all fun i => t.cls (k + 1) i == t.cls k i
            · have hd' := cls_differ hs
              have hle := tot_cls_le t (k + 1) t.n
              rw [upV_all] at hM
              have hM2 : Mm w.heap.size w wr [(A2, nvs t.n (t.cls (k + 1)), 2), (w.heap.size, [.pointer (some ⟨T, 0, none⟩)], 95)] [] := hM.sub (by apply List.Sublist.cons_cons; apply List.Sublist.cons; exact List.Sublist.refl _)
              have HG2 : Hid (t.n * t.n ≤ (gk - 1) + tot (t.cls (k + 1)) t.n ∧ gk - 1 < gk) := by have := HG.out; show _ ∧ _; omega
              clear hs hM hd' hle HG
              go_wp2_with fail
              go_roundg (gk - 1)
              case measure => exact HG2.out.2
              case rel => exact ⟨k + 1, A2, by omega, rfl, hM2, HG2.out.1⟩
            · have hst := cls_same hs
              have HFIN : Hid (nvs t.n (t.cls k) = i64s (finL t)) := by
                show _ = _
                rw [nvs_i64s, finL]
                congr 1
                exact List.map_congr_left fun q hq => by rw [t.fin_st hw hn1 hst (by simpa using hq)]
              have hM2 : Mm w.heap.size w wr [(A, nvs t.n (t.cls k), 2), (w.heap.size, [.pointer (some ⟨T, 0, none⟩)], 95)] [] := hM.sub (List.sublist_cons_self _ _)
              have hF := (hM2.addOwn (List.mem_cons_self ..) t.n (by simp [nvs_len]) (by omega))
              have hO := hF.own _ (List.mem_cons_self ..)
              rw [HFIN.out] at hO
              have HO : Hid (OwnI wr w.heap.size (.slice (some ⟨A, 0, none⟩) t.n t.n) (finL t)) := by
                show World.ownsRow _ _ _ _ _ _ _
                simpa [i64s] using hO
              have hbl := hM2.below
              clear hs hM hM2 hF hO hst
              go_wp2_with fail
              go_ret
              exact ⟨_, rfl, hbl, HO.out⟩
end Go.Proofs.Ytmacnofkpdikiaa
