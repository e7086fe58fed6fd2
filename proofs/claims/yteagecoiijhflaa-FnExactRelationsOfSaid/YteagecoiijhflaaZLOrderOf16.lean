import Derived.Test.YteagecoiijhflaaZLOrderOf15
import Derived.Test.YteagecoiijhflaaZLOrderOf14
/- The reference's search for the order of a group word (printed by gen_hc.py). -/
namespace Go.Proofs.Yteagecoiijhflaa
open Go.RowKit
set_option linter.unusedVariables false
set_option linter.unusedSimpArgs false

theorem l06Order_any (m : Mch) (hwf : m.Wf) (hok : m.Ok) : ∀ (n : Nat) (P : Pth) (g : Wd) (u v c : Value) (w : World), P.length + n = 11 → POk P → (∀ p ∈ P, p.1.length ≤ 40) → (∀ p ∈ P, p.2.1 < 3) → GW m g → g.length ≤ 40 → PthAt w u v c P g →
    Calls Try.prog 109 #[.agg (tcells m).toArray, .agg #[u, v, c]] w (RetO (ordS m n P g) w)
  | 0, P, g, u, v, c, w, hn, hP, hq, hp, hg, hl, hA => by
    have h := l06Order_step m hwf hok none P g u v c w hP hq hp (by omega) ⟨fun _ => by omega, fun _ => rfl⟩ hg hl hA (fun s h => by cases h) (fun s h => by cases h)
    by_cases h0 : g = []
    · subst h0; rw [ordS_nil]; rw [if_pos rfl] at h; exact h
    · rw [ordS_eq m 0 P h0]; rw [if_neg h0] at h; exact h
  | n + 1, P, g, u, v, c, w, hn, hP, hq, hp, hg, hl, hA => by
    have h := l06Order_step m hwf hok (some (ordS m n)) P g u v c w hP hq hp (by omega) ⟨(fun h => by cases h), (fun h => by omega)⟩ hg hl hA
      (fun s h Q r hQ hQl => by injection h with h; subst h; exact ordS_ok m n Q r hQ (by omega))
      (fun s h Q r u v c W hQl hQ h1 h2 hr hrl hA => by injection h with h; subst h; exact l06Order_any m hwf hok n Q r u v c W (by omega) hQ h1 h2 hr hrl hA)
    by_cases h0 : g = []
    · subst h0; rw [ordS_nil]; rw [if_pos rfl] at h; exact h
    · rw [ordS_eq m (n + 1) P h0]; rw [if_neg h0] at h; exact h

def resN : Ores → Nat
  | .ok n => n
  | _ => 0
def resS : Ores → ByteArray
  | .inf ls _ => txt ls
  | _ => ⟨#[]⟩
def resF : Ores → Nat
  | .inf _ f => f
  | _ => 0
def resC : Ores → Nat
  | .lim => 3
  | _ => 0
theorem RetO.form {r : Ores} {w w' : World} {e : Ending} (h : RetO r w e w') : e = .returned (.tuple #[.int .i64 (resN r : Int), .agg #[.string (resS r), .int .i64 (resF r : Int)], .int .i64 (resC r : Int)]) ∧ Below w.heap.size w w' := by
  cases r with
  | ok n => exact ⟨h.2, h.1⟩
  | inf ls f => exact ⟨h.2, h.1⟩
  | lim => exact ⟨h.2, h.1⟩
theorem pth_one {B b : Nat} {w : World} {a : Option Addr} {c : Nat} {g : Wd} (hB : B ≤ b) (h : Blk w b [.slice a g.length c] 26) (hI : IntsAt w a g) : PthAt w (.slice (some ⟨b, 0, none⟩) 1 1) (.slice none 0 0) (.slice none 0 0) [] g := by
  refine ⟨⟨B, [.slice a g.length c], rfl, blk_own hB h 1 rfl (by omega), fun y hy => ?_, fun i hi => ?_⟩, ⟨B, World.ownsRow_nil _ _ _ _⟩, ⟨B, World.ownsRow_nil _ _ _ _⟩⟩
  · rw [List.mem_singleton.1 hy]; rfl
  · obtain rfl : i = 0 := by simpa using hi
    exact ⟨a, c, rfl, hI⟩

set_option maxRecDepth 100000 in
set_option maxHeartbeats 4000000 in
theorem l06Search_any (m : Mch) (hwf : m.Wf) (hok : m.Ok) (a : Option Addr) (g : Wd) (c : Nat) (hg : GW m g) (hl : g.length ≤ 40) (w : World) (hI : IntsAt w a g) :
    Calls Try.prog 69 #[.agg m.cells.toArray, .slice a g.length c] w fun e w' => e = .returned (.tuple #[.int .i64 (resN (ordW m g) : Int), .agg #[.string (resS (ordW m g)), .int .i64 (resF (ordW m g) : Int)], .int .i64 (resC (ordW m g) : Int)]) ∧ Below w.heap.size w w' := by
  have hmx : Try.prog.follows .mixedOrders = true := by kernel_rfl
  have HMX := Lib.hid hmx
  have hM0 := ((Mm.start w).alloc m.cells.toArray 29).alloc #[.string ⟨#[]⟩, .int .i64 0] 53
  rw [show (w.alloc (.cells m.cells.toArray 29)).heap.size = w.heap.size + 1 by simp] at hM0
  have hm := hM0.mach 1 rfl
  have HOF := Lib.hid (l06Of_any m hwf hok ((w.alloc (.cells m.cells.toArray 29)).alloc (.cells #[.string ⟨#[]⟩, .int .i64 0] 53)))
  have HT := Lib.hid (infoT228 hwf hok)
  have HT1 := Lib.hid (tcells_one m)
  have HTL := Lib.hid (tcells_len hwf hok)
  have HCI := Lib.hid (cls_info m)
  have HTI := Lib.hid (trv_info m)
  have HI := Lib.hid hI
  have HGW := Lib.hid hg
  have HGN : Hid (GW m (nrm m g) ∧ (nrm m g).length ≤ 40) := ⟨nrm_gw hg, Nat.le_trans (nrm_len m g) hl⟩
  have HNO : Hid (∀ W, Below w.heap.size w W → Calls Try.prog 87 #[.slice a g.length c, .agg (clsV m).toArray, .agg (trvV m).toArray] W fun e w' => ∃ v, e = .returned v ∧ Below W.heap.size W w' ∧ OwnI w' W.heap.size v (nrm m g)) := fun W hW => l02Normal_any m hok a g c HGW.out (by omega) W (HI.out.keep hW)
  clear hI hg hmx
  go_enter Try.func69, Try.ntmps69
  go_wp2_with ((with_reducible refine ld_mach ?_ (.tmp 2) ?_ (w.heap.size) (0) ?_ m hm hwf ?_); exact rfl; exact rfl; exact rfl)
  refine HOF.out.mono ?_
  rintro e w3 ⟨rfl, hb3⟩
  have hM1 := (hM0.call hb3).alloc Try.zeroCells67 67
  have ht := (hM1.at 0 rfl).there 0 (tcells m).length (by simp only; rw [zeroT_len, HTL.out]; omega)
  have hM2 := hM1.setAll 0 rfl (vs := tcells m) (by rw [zeroT_len, HTL.out])
  simp only [List.set_cons_zero] at hM2
  have hM := hM2.drew
  clear hM0 hM1 hM2 HOF hm hb3
  go_wp2_with ((with_reducible refine st_row ?_ 67 (.tmp 7) (.tmp 12) ?_ w3.heap.size 0 (tcells m) ?_ ?_ ht HT.out HT1.out ?_); exact rfl; exact rfl; exact rfl; exact rfl)
  clear ht
  obtain ⟨W0, hW0⟩ : ∃ W, W = ((w3.alloc (.cells Try.zeroCells67 67)).setCells w3.heap.size 0 (tcells m)).drew := ⟨_, rfl⟩
  rw [← hW0] at hM
  refine region_S (fun W => Blk W w3.heap.size (tcells m) 67) [] 18 rfl HMX.out (by rw [← hW0]; exact hM.at 0 rfl) (fun hU => ?_)
  rw [← hW0] at hU ⊢
  clear hW0
  generalize w3.heap.size = b7 at *
  (refine AnyS.takeS (i := 0) rfl (by kernel_rfl) (by kernel_rfl) (by kernel_rfl) (by rfl) (by kernel_rfl) (by kernel_rfl) (fun _ _ _ h => h) (by rfl) (fun W hW => run_ld Try.underlying67 rfl HT.out (.tmp 7) rfl rfl hW.all) hU (fun hU => ?_); (try simp only [Act.put, List.setIfInBounds_toArray, List.set_cons_zero, List.set_cons_succ]))
  (refine AnyS.take (i := 1) rfl (by kernel_rfl) (by kernel_rfl) (by kernel_rfl) (by rfl) (fun _ _ _ h => h) (by rfl) (by intro w; go_simp; with_reducible rfl) hU (fun hU => ?_); (try simp only [Act.put, List.setIfInBounds_toArray, List.set_cons_zero, List.set_cons_succ]); refine AnyS.take (i := 2) rfl (by kernel_rfl) (by kernel_rfl) (by kernel_rfl) (by rfl) (fun _ _ _ h => h) (by rfl) (by intro w; go_simp; with_reducible rfl) hU (fun hU => ?_); (try simp only [Act.put, List.setIfInBounds_toArray, List.set_cons_zero, List.set_cons_succ]); refine AnyS.take (i := 4) rfl (by kernel_rfl) (by kernel_rfl) (by kernel_rfl) (by rfl) (fun _ _ _ h => h) (by rfl) (by intro w; go_simp; with_reducible rfl) hU (fun hU => ?_); (try simp only [Act.put, List.setIfInBounds_toArray, List.set_cons_zero, List.set_cons_succ]))
  (refine AnyS.takeS (i := 3) rfl (by kernel_rfl) (by kernel_rfl) (by kernel_rfl) (by rfl) (by kernel_rfl) (by kernel_rfl) (fun _ _ _ h => h) (by rfl) (fun W hW => run_ld Try.underlying64 rfl HCI.out (.tmp 16) rfl rfl (turn_at hwf hok hW).2.2.1) hU (fun hU => ?_); (try simp only [Act.put, List.setIfInBounds_toArray, List.set_cons_zero, List.set_cons_succ]))
  (refine AnyS.takeS (i := 5) rfl (by kernel_rfl) (by kernel_rfl) (by kernel_rfl) (by rfl) (by kernel_rfl) (by kernel_rfl) (fun _ _ _ h => h) (by rfl) (fun W hW => run_ld Try.underlying65 rfl HTI.out (.tmp 18) rfl rfl (turn_at hwf hok hW).2.2.2) hU (fun hU => ?_); (try simp only [Act.put, List.setIfInBounds_toArray, List.set_cons_zero, List.set_cons_succ]))
  refine AnyS.branch (rs := [6, 14]) (by kernel_rfl) (by simp) (AllS.cons rfl (fun K hK => ?_) (AllS.cons rfl (fun K hK => ?_) AllS.nil))
  · skip
    go_simp
    refine (HNO.out _ hM.below).mono ?_
    rintro e W6 ⟨vn, rfl, hb6, hO6⟩
    obtain ⟨an, cn, rfl, -⟩ := hO6.form
    have hM := hM.callOwn hb6 hO6 (by simp [i64s])
    refine hK.out _ _ (.inl (hM.at 0 rfl)) (fun hU => ?_)
    clear hK K hb6 hO6
    (try simp only [Act.put, List.setIfInBounds_toArray, List.set_cons_zero, List.set_cons_succ])
    refine AnyS.branch (rs := [7, 14]) (by kernel_rfl) (by simp) (AllS.cons rfl (fun K hK => ?_) (AllS.cons rfl (fun K hK => ?_) AllS.nil))
    · skip
      have hM2 := hM.alloc #[.slice an (nrm m g).length cn] 26
      go_simp
      refine hK.out _ _ (.inl (hM2.at 1 rfl)) (fun hU => ?_)
      clear hK K hM
      (try simp only [Act.put, List.setIfInBounds_toArray, List.set_cons_zero, List.set_cons_succ])
      generalize W6.alloc (.cells #[.slice an (nrm m g).length cn] 26) = W7 at *
      generalize W6.heap.size = b21 at *
      have hM := hM2
      clear hM2
      (refine AnyS.take (i := 8) rfl (by kernel_rfl) (by kernel_rfl) (by kernel_rfl) (by rfl) (fun _ _ _ h => h) (by rfl) (by intro w; go_simp; with_reducible rfl) hU (fun hU => ?_); (try simp only [Act.put, List.setIfInBounds_toArray, List.set_cons_zero, List.set_cons_succ]))
      refine AnyS.branch (rs := [9, 14]) (by kernel_rfl) (by simp) (AllS.cons rfl (fun K hK => ?_) (AllS.cons rfl (fun K hK => ?_) AllS.nil))
      · skip
        have hb21 := hM.blk _ (mem_of_get (i := 0) rfl)
        have HPA : Hid (∀ W, PthAt W (.slice (some ⟨b21, 0, none⟩) 1 1) (.slice none 0 0) (.slice none 0 0) [] (nrm m g) → Calls Try.prog 109 #[.agg (tcells m).toArray, .agg #[.slice (some ⟨b21, 0, none⟩) 1 1, .slice none 0 0, .slice none 0 0]] W (RetO (ordS m 11 [] (nrm m g)) W)) := fun W h => l06Order_any m hwf hok 11 [] (nrm m g) _ _ _ W rfl (fun p h => by cases h) (fun p h => by cases h) (fun p h => by cases h) HGN.out.1 HGN.out.2 h
        have HPT := Lib.hid (pth_one hb21.1 hb21.2 (hM.intsAt 0 rfl))
        go_simp
        refine (HPA.out _ HPT.out).mono ?_
        intro e W9 hR
        obtain ⟨rfl, hb9⟩ := hR.form
        clear HPA HPT hb21 hR
        have hM := (hM.call hb9).subG (G' := []) (List.nil_sublist _)
        have hM := hM.sub (L' := [(b7, tcells m, 67), (w.heap.size + 1, prC ⟨#[]⟩ 0, 53), (w.heap.size, m.cells, 29)]) (by exact .cons _ (.refl _))
        refine hK.out _ _ (.inl (hM.at 0 rfl)) (fun hU => ?_)
        clear hK K hb9
        (try simp only [Act.put, List.setIfInBounds_toArray, List.set_cons_zero, List.set_cons_succ])
        have HORD : Hid (ordS m 11 [] (nrm m g) = ordW m g) := rfl
        rw [HORD.out]
        (refine AnyS.take (i := 10) rfl (by kernel_rfl) (by kernel_rfl) (by kernel_rfl) (by rfl) (fun _ _ _ h => h) (by rfl) (by intro w; go_simp; with_reducible rfl) hU (fun hU => ?_); (try simp only [Act.put, List.setIfInBounds_toArray, List.set_cons_zero, List.set_cons_succ]); refine AnyS.take (i := 11) rfl (by kernel_rfl) (by kernel_rfl) (by kernel_rfl) (by rfl) (fun _ _ _ h => h) (by rfl) (by intro w; go_simp; with_reducible rfl) hU (fun hU => ?_); (try simp only [Act.put, List.setIfInBounds_toArray, List.set_cons_zero, List.set_cons_succ]); refine AnyS.take (i := 12) rfl (by kernel_rfl) (by kernel_rfl) (by kernel_rfl) (by rfl) (fun _ _ _ h => h) (by rfl) (by intro w; go_simp; with_reducible rfl) hU (fun hU => ?_); (try simp only [Act.put, List.setIfInBounds_toArray, List.set_cons_zero, List.set_cons_succ]); refine AnyS.take (i := 13) rfl (by kernel_rfl) (by kernel_rfl) (by kernel_rfl) (by rfl) (fun _ _ _ h => h) (by rfl) (by intro w; go_simp; with_reducible rfl) hU (fun hU => ?_); (try simp only [Act.put, List.setIfInBounds_toArray, List.set_cons_zero, List.set_cons_succ]))
        refine AnyS.branch (rs := [14]) (by kernel_rfl) (by simp) (AllS.cons rfl (fun K hK => ?_) AllS.nil)

        have hM2 := hM.alloc #[.string ⟨#[]⟩, .int .i64 0] 53
        go_simp
        refine hK.out _ _ (.inl (hM2.at 1 rfl)) (fun hU => ?_)
        clear hK K hM
        (try simp only [Act.put, List.setIfInBounds_toArray, List.set_cons_zero, List.set_cons_succ])
        generalize W9.alloc (.cells #[.string ⟨#[]⟩, .int .i64 0] 53) = WX at *
        generalize W9.heap.size = b14 at *
        have hM := hM2
        clear hM2

        generalize hRN : resN (ordW m g) = rn at *
        generalize hRS : resS (ordW m g) = rs at *
        generalize hRF : resF (ordW m g) = rf at *
        generalize hRC : resC (ordW m g) = rc at *
        have HRN := Lib.hid hRN
        have HRS := Lib.hid hRS
        have HRF := Lib.hid hRF
        have HRC := Lib.hid hRC
        clear hRN hRS hRF hRC
        (refine AnyS.take (i := 15) rfl (by kernel_rfl) (by kernel_rfl) (by kernel_rfl) (by rfl) (fun _ _ _ h => h) (by rfl) (by intro w; go_simp; with_reducible rfl) hU (fun hU => ?_); (try simp only [Act.put, List.setIfInBounds_toArray, List.set_cons_zero, List.set_cons_succ]))
        have ht := (hM.at 0 rfl).there 0 2 (by simp [prC])
        have hM2 := hM.setAll 0 rfl (vs := [.string rs, .int .i64 (rf : Int)]) rfl
        have HM2 := Lib.hid hM2
        clear hM hM2
        (refine AnyS.branch (rs := [16]) (by kernel_rfl) (List.cons_ne_nil _ _) ?_; refine AllS.cons rfl ?_ AllS.nil; intro K hK)
        refine ite_of (by kernel_rfl) ?_
        refine wp_st 53 (.tmp 9) (.tmp 25) rfl b14 0 [.string rs, .int .i64 (rf : Int)] rfl rfl ht infoPr (by simp [Value.oneCell']) ?_
        refine hK.out _ _ (.inl (HM2.out.at 1 rfl)) (fun hU => ?_)
        clear hK K ht
        (try simp only [Act.put, List.setIfInBounds_toArray, List.set_cons_zero, List.set_cons_succ])
        (refine AnyS.take (i := 17) rfl (by kernel_rfl) (by kernel_rfl) (by kernel_rfl) (by rfl) (fun _ _ _ h => h) (by rfl) (by intro w; go_simp; with_reducible rfl) hU (fun hU => ?_); (try simp only [Act.put, List.setIfInBounds_toArray, List.set_cons_zero, List.set_cons_succ]))
        refine AnyS.done (by kernel_rfl) ?_ _
        clear hU
        generalize WX.setCells b14 0 [.string rs, .int .i64 (rf : Int)] = WY at *
        go_wp2_with fail
        have hM := HM2.out.drew
        obtain ⟨WZ, hWZ⟩ : ∃ W, W = WY.drew := ⟨_, rfl⟩
        rw [← hWZ] at hM
        refine region_S (fun W => Blk W b14 [.string rs, .int .i64 (rf : Int)] 53) [] 6 rfl HMX.out (by rw [← hWZ]; exact hM.at 0 rfl) (fun hU => ?_)
        rw [← hWZ] at hU ⊢
        clear hWZ HM2
        (refine AnyS.take (i := 0) rfl (by kernel_rfl) (by kernel_rfl) (by kernel_rfl) (by rfl) (fun _ _ _ h => h) (by rfl) (by intro w; go_simp; with_reducible rfl) hU (fun hU => ?_); (try simp only [Act.put, List.setIfInBounds_toArray, List.set_cons_zero, List.set_cons_succ]); refine AnyS.take (i := 2) rfl (by kernel_rfl) (by kernel_rfl) (by kernel_rfl) (by rfl) (fun _ _ _ h => h) (by rfl) (by intro w; go_simp; with_reducible rfl) hU (fun hU => ?_); (try simp only [Act.put, List.setIfInBounds_toArray, List.set_cons_zero, List.set_cons_succ]))
        (refine AnyS.takeS (i := 1) rfl (by kernel_rfl) (by kernel_rfl) (by kernel_rfl) (by rfl) (by kernel_rfl) (by kernel_rfl) (fun _ _ _ h => h) (by rfl) (by intro W hSw; have h0 := hSw.cell' (i := 0) rfl; have h1 := hSw.cell' (i := 1) rfl; clear hSw; go_simp; with_reducible rfl) hU (fun hU => ?_); (try simp only [Act.put, List.setIfInBounds_toArray, List.set_cons_zero, List.set_cons_succ]))
        (refine AnyS.take (i := 3) rfl (by kernel_rfl) (by kernel_rfl) (by kernel_rfl) (by rfl) (fun _ _ _ h => h) (by rfl) (by intro w; go_simp; with_reducible rfl) hU (fun hU => ?_); (try simp only [Act.put, List.setIfInBounds_toArray, List.set_cons_zero, List.set_cons_succ]))
        have ht := (hM.at 2 rfl).there 0 2 (by simp [prC])
        have hM2 := hM.setAll 2 rfl (vs := [.string rs, .int .i64 (rf : Int)]) rfl
        have HM2 := Lib.hid hM2
        clear hM hM2
        (refine AnyS.branch (rs := [4]) (by kernel_rfl) (List.cons_ne_nil _ _) ?_; refine AllS.cons rfl ?_ AllS.nil; intro K hK)
        refine ite_of (by kernel_rfl) ?_
        refine wp_st 53 (.tmp 5) (.tmp 28) rfl (w.heap.size + 1) 0 [.string rs, .int .i64 (rf : Int)] rfl rfl ht infoPr (by simp [Value.oneCell']) ?_
        refine hK.out _ _ (.inl (HM2.out.at 0 rfl)) (fun hU => ?_)
        clear hK K ht
        (try simp only [Act.put, List.setIfInBounds_toArray, List.set_cons_zero, List.set_cons_succ])
        (refine AnyS.take (i := 5) rfl (by kernel_rfl) (by kernel_rfl) (by kernel_rfl) (by rfl) (fun _ _ _ h => h) (by rfl) (by intro w; go_simp; with_reducible rfl) hU (fun hU => ?_); (try simp only [Act.put, List.setIfInBounds_toArray, List.set_cons_zero, List.set_cons_succ]))
        refine AnyS.done (by kernel_rfl) ?_ _
        clear hU
        go_wp2_with fail
        exact bodyPost_ret (v := .tuple #[.int .i64 (rn : Int), .agg #[.string rs, .int .i64 (rf : Int)], .int .i64 (rc : Int)]) (results_mid Try.results69 _ _ (w.heap.size + 1) 53 #[.string rs, .int .i64 (rf : Int)] (0, 0) (.struct _) rfl (HM2.out.at 2 rfl) Try.underlying53 rfl infoPr) rfl ⟨by rw [HRN.out, HRS.out, HRF.out, HRC.out], HM2.out.below⟩
      · skip
        have hM2 := hM.alloc #[.string ⟨#[]⟩, .int .i64 0] 53
        go_simp
        refine hK.out _ _ (.inl (hM2.at 2 rfl)) (fun hU => ?_)
        clear hK K hM
        (try simp only [Act.put, List.setIfInBounds_toArray, List.set_cons_zero, List.set_cons_succ])
        generalize W7.alloc (.cells #[.string ⟨#[]⟩, .int .i64 0] 53) = W8 at *
        generalize W7.heap.size = b14 at *
        have hM := hM2
        clear hM2
        refine AnyS.branch (rs := [9]) (by kernel_rfl) (by simp) (AllS.cons rfl (fun K hK => ?_) AllS.nil)

        have hb21 := hM.blk _ (mem_of_get (i := 1) rfl)
        have HPA : Hid (∀ W, PthAt W (.slice (some ⟨b21, 0, none⟩) 1 1) (.slice none 0 0) (.slice none 0 0) [] (nrm m g) → Calls Try.prog 109 #[.agg (tcells m).toArray, .agg #[.slice (some ⟨b21, 0, none⟩) 1 1, .slice none 0 0, .slice none 0 0]] W (RetO (ordS m 11 [] (nrm m g)) W)) := fun W h => l06Order_any m hwf hok 11 [] (nrm m g) _ _ _ W rfl (fun p h => by cases h) (fun p h => by cases h) (fun p h => by cases h) HGN.out.1 HGN.out.2 h
        have HPT := Lib.hid (pth_one hb21.1 hb21.2 (hM.intsAt 0 rfl))
        go_simp
        refine (HPA.out _ HPT.out).mono ?_
        intro e WX hR
        obtain ⟨rfl, hb9⟩ := hR.form
        clear HPA HPT hb21 hR
        have hM := (hM.call hb9).subG (G' := []) (List.nil_sublist _)
        have hM := hM.sub (L' := [(b14, prC ⟨#[]⟩ 0, 53), (b7, tcells m, 67), (w.heap.size + 1, prC ⟨#[]⟩ 0, 53), (w.heap.size, m.cells, 29)]) (by exact .cons_cons _ (.cons _ (.refl _)))
        refine hK.out _ _ (.inl (hM.at 1 rfl)) (fun hU => ?_)
        clear hK K hb9
        (try simp only [Act.put, List.setIfInBounds_toArray, List.set_cons_zero, List.set_cons_succ])
        have HORD : Hid (ordS m 11 [] (nrm m g) = ordW m g) := rfl
        rw [HORD.out]
        (refine AnyS.take (i := 10) rfl (by kernel_rfl) (by kernel_rfl) (by kernel_rfl) (by rfl) (fun _ _ _ h => h) (by rfl) (by intro w; go_simp; with_reducible rfl) hU (fun hU => ?_); (try simp only [Act.put, List.setIfInBounds_toArray, List.set_cons_zero, List.set_cons_succ]); refine AnyS.take (i := 11) rfl (by kernel_rfl) (by kernel_rfl) (by kernel_rfl) (by rfl) (fun _ _ _ h => h) (by rfl) (by intro w; go_simp; with_reducible rfl) hU (fun hU => ?_); (try simp only [Act.put, List.setIfInBounds_toArray, List.set_cons_zero, List.set_cons_succ]); refine AnyS.take (i := 12) rfl (by kernel_rfl) (by kernel_rfl) (by kernel_rfl) (by rfl) (fun _ _ _ h => h) (by rfl) (by intro w; go_simp; with_reducible rfl) hU (fun hU => ?_); (try simp only [Act.put, List.setIfInBounds_toArray, List.set_cons_zero, List.set_cons_succ]); refine AnyS.take (i := 13) rfl (by kernel_rfl) (by kernel_rfl) (by kernel_rfl) (by rfl) (fun _ _ _ h => h) (by rfl) (by intro w; go_simp; with_reducible rfl) hU (fun hU => ?_); (try simp only [Act.put, List.setIfInBounds_toArray, List.set_cons_zero, List.set_cons_succ]))

        generalize hRN : resN (ordW m g) = rn at *
        generalize hRS : resS (ordW m g) = rs at *
        generalize hRF : resF (ordW m g) = rf at *
        generalize hRC : resC (ordW m g) = rc at *
        have HRN := Lib.hid hRN
        have HRS := Lib.hid hRS
        have HRF := Lib.hid hRF
        have HRC := Lib.hid hRC
        clear hRN hRS hRF hRC
        (refine AnyS.take (i := 15) rfl (by kernel_rfl) (by kernel_rfl) (by kernel_rfl) (by rfl) (fun _ _ _ h => h) (by rfl) (by intro w; go_simp; with_reducible rfl) hU (fun hU => ?_); (try simp only [Act.put, List.setIfInBounds_toArray, List.set_cons_zero, List.set_cons_succ]))
        have ht := (hM.at 0 rfl).there 0 2 (by simp [prC])
        have hM2 := hM.setAll 0 rfl (vs := [.string rs, .int .i64 (rf : Int)]) rfl
        have HM2 := Lib.hid hM2
        clear hM hM2
        (refine AnyS.branch (rs := [16]) (by kernel_rfl) (List.cons_ne_nil _ _) ?_; refine AllS.cons rfl ?_ AllS.nil; intro K hK)
        refine ite_of (by kernel_rfl) ?_
        refine wp_st 53 (.tmp 9) (.tmp 25) rfl b14 0 [.string rs, .int .i64 (rf : Int)] rfl rfl ht infoPr (by simp [Value.oneCell']) ?_
        refine hK.out _ _ (.inl (HM2.out.at 1 rfl)) (fun hU => ?_)
        clear hK K ht
        (try simp only [Act.put, List.setIfInBounds_toArray, List.set_cons_zero, List.set_cons_succ])
        (refine AnyS.take (i := 17) rfl (by kernel_rfl) (by kernel_rfl) (by kernel_rfl) (by rfl) (fun _ _ _ h => h) (by rfl) (by intro w; go_simp; with_reducible rfl) hU (fun hU => ?_); (try simp only [Act.put, List.setIfInBounds_toArray, List.set_cons_zero, List.set_cons_succ]))
        refine AnyS.done (by kernel_rfl) ?_ _
        clear hU
        generalize WX.setCells b14 0 [.string rs, .int .i64 (rf : Int)] = WY at *
        go_wp2_with fail
        have hM := HM2.out.drew
        obtain ⟨WZ, hWZ⟩ : ∃ W, W = WY.drew := ⟨_, rfl⟩
        rw [← hWZ] at hM
        refine region_S (fun W => Blk W b14 [.string rs, .int .i64 (rf : Int)] 53) [] 6 rfl HMX.out (by rw [← hWZ]; exact hM.at 0 rfl) (fun hU => ?_)
        rw [← hWZ] at hU ⊢
        clear hWZ HM2
        (refine AnyS.take (i := 0) rfl (by kernel_rfl) (by kernel_rfl) (by kernel_rfl) (by rfl) (fun _ _ _ h => h) (by rfl) (by intro w; go_simp; with_reducible rfl) hU (fun hU => ?_); (try simp only [Act.put, List.setIfInBounds_toArray, List.set_cons_zero, List.set_cons_succ]); refine AnyS.take (i := 2) rfl (by kernel_rfl) (by kernel_rfl) (by kernel_rfl) (by rfl) (fun _ _ _ h => h) (by rfl) (by intro w; go_simp; with_reducible rfl) hU (fun hU => ?_); (try simp only [Act.put, List.setIfInBounds_toArray, List.set_cons_zero, List.set_cons_succ]))
        (refine AnyS.takeS (i := 1) rfl (by kernel_rfl) (by kernel_rfl) (by kernel_rfl) (by rfl) (by kernel_rfl) (by kernel_rfl) (fun _ _ _ h => h) (by rfl) (by intro W hSw; have h0 := hSw.cell' (i := 0) rfl; have h1 := hSw.cell' (i := 1) rfl; clear hSw; go_simp; with_reducible rfl) hU (fun hU => ?_); (try simp only [Act.put, List.setIfInBounds_toArray, List.set_cons_zero, List.set_cons_succ]))
        (refine AnyS.take (i := 3) rfl (by kernel_rfl) (by kernel_rfl) (by kernel_rfl) (by rfl) (fun _ _ _ h => h) (by rfl) (by intro w; go_simp; with_reducible rfl) hU (fun hU => ?_); (try simp only [Act.put, List.setIfInBounds_toArray, List.set_cons_zero, List.set_cons_succ]))
        have ht := (hM.at 2 rfl).there 0 2 (by simp [prC])
        have hM2 := hM.setAll 2 rfl (vs := [.string rs, .int .i64 (rf : Int)]) rfl
        have HM2 := Lib.hid hM2
        clear hM hM2
        (refine AnyS.branch (rs := [4]) (by kernel_rfl) (List.cons_ne_nil _ _) ?_; refine AllS.cons rfl ?_ AllS.nil; intro K hK)
        refine ite_of (by kernel_rfl) ?_
        refine wp_st 53 (.tmp 5) (.tmp 28) rfl (w.heap.size + 1) 0 [.string rs, .int .i64 (rf : Int)] rfl rfl ht infoPr (by simp [Value.oneCell']) ?_
        refine hK.out _ _ (.inl (HM2.out.at 0 rfl)) (fun hU => ?_)
        clear hK K ht
        (try simp only [Act.put, List.setIfInBounds_toArray, List.set_cons_zero, List.set_cons_succ])
        (refine AnyS.take (i := 5) rfl (by kernel_rfl) (by kernel_rfl) (by kernel_rfl) (by rfl) (fun _ _ _ h => h) (by rfl) (by intro w; go_simp; with_reducible rfl) hU (fun hU => ?_); (try simp only [Act.put, List.setIfInBounds_toArray, List.set_cons_zero, List.set_cons_succ]))
        refine AnyS.done (by kernel_rfl) ?_ _
        clear hU
        go_wp2_with fail
        exact bodyPost_ret (v := .tuple #[.int .i64 (rn : Int), .agg #[.string rs, .int .i64 (rf : Int)], .int .i64 (rc : Int)]) (results_mid Try.results69 _ _ (w.heap.size + 1) 53 #[.string rs, .int .i64 (rf : Int)] (0, 0) (.struct _) rfl (HM2.out.at 2 rfl) Try.underlying53 rfl infoPr) rfl ⟨by rw [HRN.out, HRS.out, HRF.out, HRC.out], HM2.out.below⟩
    · skip
      have hM2 := hM.alloc #[.string ⟨#[]⟩, .int .i64 0] 53
      go_simp
      refine hK.out _ _ (.inl (hM2.at 1 rfl)) (fun hU => ?_)
      clear hK K hM
      (try simp only [Act.put, List.setIfInBounds_toArray, List.set_cons_zero, List.set_cons_succ])
      generalize W6.alloc (.cells #[.string ⟨#[]⟩, .int .i64 0] 53) = W7 at *
      generalize W6.heap.size = b14 at *
      have hM := hM2
      clear hM2
      refine AnyS.branch (rs := [7]) (by kernel_rfl) (by simp) (AllS.cons rfl (fun K hK => ?_) AllS.nil)

      have hM2 := hM.alloc #[.slice an (nrm m g).length cn] 26
      go_simp
      refine hK.out _ _ (.inl (hM2.at 2 rfl)) (fun hU => ?_)
      clear hK K hM
      (try simp only [Act.put, List.setIfInBounds_toArray, List.set_cons_zero, List.set_cons_succ])
      generalize W7.alloc (.cells #[.slice an (nrm m g).length cn] 26) = W8 at *
      generalize W7.heap.size = b21 at *
      have hM := hM2
      clear hM2
      (refine AnyS.take (i := 8) rfl (by kernel_rfl) (by kernel_rfl) (by kernel_rfl) (by rfl) (fun _ _ _ h => h) (by rfl) (by intro w; go_simp; with_reducible rfl) hU (fun hU => ?_); (try simp only [Act.put, List.setIfInBounds_toArray, List.set_cons_zero, List.set_cons_succ]))
      refine AnyS.branch (rs := [9]) (by kernel_rfl) (by simp) (AllS.cons rfl (fun K hK => ?_) AllS.nil)

      have hb21 := hM.blk _ (mem_of_get (i := 0) rfl)
      have HPA : Hid (∀ W, PthAt W (.slice (some ⟨b21, 0, none⟩) 1 1) (.slice none 0 0) (.slice none 0 0) [] (nrm m g) → Calls Try.prog 109 #[.agg (tcells m).toArray, .agg #[.slice (some ⟨b21, 0, none⟩) 1 1, .slice none 0 0, .slice none 0 0]] W (RetO (ordS m 11 [] (nrm m g)) W)) := fun W h => l06Order_any m hwf hok 11 [] (nrm m g) _ _ _ W rfl (fun p h => by cases h) (fun p h => by cases h) (fun p h => by cases h) HGN.out.1 HGN.out.2 h
      have HPT := Lib.hid (pth_one hb21.1 hb21.2 (hM.intsAt 0 rfl))
      go_simp
      refine (HPA.out _ HPT.out).mono ?_
      intro e WX hR
      obtain ⟨rfl, hb9⟩ := hR.form
      clear HPA HPT hb21 hR
      have hM := (hM.call hb9).subG (G' := []) (List.nil_sublist _)
      have hM := hM.sub (L' := [(b14, prC ⟨#[]⟩ 0, 53), (b7, tcells m, 67), (w.heap.size + 1, prC ⟨#[]⟩ 0, 53), (w.heap.size, m.cells, 29)]) (by exact .cons _ (.refl _))
      refine hK.out _ _ (.inl (hM.at 1 rfl)) (fun hU => ?_)
      clear hK K hb9
      (try simp only [Act.put, List.setIfInBounds_toArray, List.set_cons_zero, List.set_cons_succ])
      have HORD : Hid (ordS m 11 [] (nrm m g) = ordW m g) := rfl
      rw [HORD.out]
      (refine AnyS.take (i := 10) rfl (by kernel_rfl) (by kernel_rfl) (by kernel_rfl) (by rfl) (fun _ _ _ h => h) (by rfl) (by intro w; go_simp; with_reducible rfl) hU (fun hU => ?_); (try simp only [Act.put, List.setIfInBounds_toArray, List.set_cons_zero, List.set_cons_succ]); refine AnyS.take (i := 11) rfl (by kernel_rfl) (by kernel_rfl) (by kernel_rfl) (by rfl) (fun _ _ _ h => h) (by rfl) (by intro w; go_simp; with_reducible rfl) hU (fun hU => ?_); (try simp only [Act.put, List.setIfInBounds_toArray, List.set_cons_zero, List.set_cons_succ]); refine AnyS.take (i := 12) rfl (by kernel_rfl) (by kernel_rfl) (by kernel_rfl) (by rfl) (fun _ _ _ h => h) (by rfl) (by intro w; go_simp; with_reducible rfl) hU (fun hU => ?_); (try simp only [Act.put, List.setIfInBounds_toArray, List.set_cons_zero, List.set_cons_succ]); refine AnyS.take (i := 13) rfl (by kernel_rfl) (by kernel_rfl) (by kernel_rfl) (by rfl) (fun _ _ _ h => h) (by rfl) (by intro w; go_simp; with_reducible rfl) hU (fun hU => ?_); (try simp only [Act.put, List.setIfInBounds_toArray, List.set_cons_zero, List.set_cons_succ]))

      generalize hRN : resN (ordW m g) = rn at *
      generalize hRS : resS (ordW m g) = rs at *
      generalize hRF : resF (ordW m g) = rf at *
      generalize hRC : resC (ordW m g) = rc at *
      have HRN := Lib.hid hRN
      have HRS := Lib.hid hRS
      have HRF := Lib.hid hRF
      have HRC := Lib.hid hRC
      clear hRN hRS hRF hRC
      (refine AnyS.take (i := 15) rfl (by kernel_rfl) (by kernel_rfl) (by kernel_rfl) (by rfl) (fun _ _ _ h => h) (by rfl) (by intro w; go_simp; with_reducible rfl) hU (fun hU => ?_); (try simp only [Act.put, List.setIfInBounds_toArray, List.set_cons_zero, List.set_cons_succ]))
      have ht := (hM.at 0 rfl).there 0 2 (by simp [prC])
      have hM2 := hM.setAll 0 rfl (vs := [.string rs, .int .i64 (rf : Int)]) rfl
      have HM2 := Lib.hid hM2
      clear hM hM2
      (refine AnyS.branch (rs := [16]) (by kernel_rfl) (List.cons_ne_nil _ _) ?_; refine AllS.cons rfl ?_ AllS.nil; intro K hK)
      refine ite_of (by kernel_rfl) ?_
      refine wp_st 53 (.tmp 9) (.tmp 25) rfl b14 0 [.string rs, .int .i64 (rf : Int)] rfl rfl ht infoPr (by simp [Value.oneCell']) ?_
      refine hK.out _ _ (.inl (HM2.out.at 1 rfl)) (fun hU => ?_)
      clear hK K ht
      (try simp only [Act.put, List.setIfInBounds_toArray, List.set_cons_zero, List.set_cons_succ])
      (refine AnyS.take (i := 17) rfl (by kernel_rfl) (by kernel_rfl) (by kernel_rfl) (by rfl) (fun _ _ _ h => h) (by rfl) (by intro w; go_simp; with_reducible rfl) hU (fun hU => ?_); (try simp only [Act.put, List.setIfInBounds_toArray, List.set_cons_zero, List.set_cons_succ]))
      refine AnyS.done (by kernel_rfl) ?_ _
      clear hU
      generalize WX.setCells b14 0 [.string rs, .int .i64 (rf : Int)] = WY at *
      go_wp2_with fail
      have hM := HM2.out.drew
      obtain ⟨WZ, hWZ⟩ : ∃ W, W = WY.drew := ⟨_, rfl⟩
      rw [← hWZ] at hM
      refine region_S (fun W => Blk W b14 [.string rs, .int .i64 (rf : Int)] 53) [] 6 rfl HMX.out (by rw [← hWZ]; exact hM.at 0 rfl) (fun hU => ?_)
      rw [← hWZ] at hU ⊢
      clear hWZ HM2
      (refine AnyS.take (i := 0) rfl (by kernel_rfl) (by kernel_rfl) (by kernel_rfl) (by rfl) (fun _ _ _ h => h) (by rfl) (by intro w; go_simp; with_reducible rfl) hU (fun hU => ?_); (try simp only [Act.put, List.setIfInBounds_toArray, List.set_cons_zero, List.set_cons_succ]); refine AnyS.take (i := 2) rfl (by kernel_rfl) (by kernel_rfl) (by kernel_rfl) (by rfl) (fun _ _ _ h => h) (by rfl) (by intro w; go_simp; with_reducible rfl) hU (fun hU => ?_); (try simp only [Act.put, List.setIfInBounds_toArray, List.set_cons_zero, List.set_cons_succ]))
      (refine AnyS.takeS (i := 1) rfl (by kernel_rfl) (by kernel_rfl) (by kernel_rfl) (by rfl) (by kernel_rfl) (by kernel_rfl) (fun _ _ _ h => h) (by rfl) (by intro W hSw; have h0 := hSw.cell' (i := 0) rfl; have h1 := hSw.cell' (i := 1) rfl; clear hSw; go_simp; with_reducible rfl) hU (fun hU => ?_); (try simp only [Act.put, List.setIfInBounds_toArray, List.set_cons_zero, List.set_cons_succ]))
      (refine AnyS.take (i := 3) rfl (by kernel_rfl) (by kernel_rfl) (by kernel_rfl) (by rfl) (fun _ _ _ h => h) (by rfl) (by intro w; go_simp; with_reducible rfl) hU (fun hU => ?_); (try simp only [Act.put, List.setIfInBounds_toArray, List.set_cons_zero, List.set_cons_succ]))
      have ht := (hM.at 2 rfl).there 0 2 (by simp [prC])
      have hM2 := hM.setAll 2 rfl (vs := [.string rs, .int .i64 (rf : Int)]) rfl
      have HM2 := Lib.hid hM2
      clear hM hM2
      (refine AnyS.branch (rs := [4]) (by kernel_rfl) (List.cons_ne_nil _ _) ?_; refine AllS.cons rfl ?_ AllS.nil; intro K hK)
      refine ite_of (by kernel_rfl) ?_
      refine wp_st 53 (.tmp 5) (.tmp 28) rfl (w.heap.size + 1) 0 [.string rs, .int .i64 (rf : Int)] rfl rfl ht infoPr (by simp [Value.oneCell']) ?_
      refine hK.out _ _ (.inl (HM2.out.at 0 rfl)) (fun hU => ?_)
      clear hK K ht
      (try simp only [Act.put, List.setIfInBounds_toArray, List.set_cons_zero, List.set_cons_succ])
      (refine AnyS.take (i := 5) rfl (by kernel_rfl) (by kernel_rfl) (by kernel_rfl) (by rfl) (fun _ _ _ h => h) (by rfl) (by intro w; go_simp; with_reducible rfl) hU (fun hU => ?_); (try simp only [Act.put, List.setIfInBounds_toArray, List.set_cons_zero, List.set_cons_succ]))
      refine AnyS.done (by kernel_rfl) ?_ _
      clear hU
      go_wp2_with fail
      exact bodyPost_ret (v := .tuple #[.int .i64 (rn : Int), .agg #[.string rs, .int .i64 (rf : Int)], .int .i64 (rc : Int)]) (results_mid Try.results69 _ _ (w.heap.size + 1) 53 #[.string rs, .int .i64 (rf : Int)] (0, 0) (.struct _) rfl (HM2.out.at 2 rfl) Try.underlying53 rfl infoPr) rfl ⟨by rw [HRN.out, HRS.out, HRF.out, HRC.out], HM2.out.below⟩
  · skip
    have hM2 := hM.alloc #[.string ⟨#[]⟩, .int .i64 0] 53
    go_simp
    refine hK.out _ _ (.inl (hM2.at 1 rfl)) (fun hU => ?_)
    clear hK K hM
    (try simp only [Act.put, List.setIfInBounds_toArray, List.set_cons_zero, List.set_cons_succ])
    generalize W0.alloc (.cells #[.string ⟨#[]⟩, .int .i64 0] 53) = W1 at *
    generalize W0.heap.size = b14 at *
    have hM := hM2
    clear hM2
    refine AnyS.branch (rs := [6]) (by kernel_rfl) (by simp) (AllS.cons rfl (fun K hK => ?_) AllS.nil)

    go_simp
    refine (HNO.out _ hM.below).mono ?_
    rintro e W6 ⟨vn, rfl, hb6, hO6⟩
    obtain ⟨an, cn, rfl, -⟩ := hO6.form
    have hM := hM.callOwn hb6 hO6 (by simp [i64s])
    refine hK.out _ _ (.inl (hM.at 1 rfl)) (fun hU => ?_)
    clear hK K hb6 hO6
    (try simp only [Act.put, List.setIfInBounds_toArray, List.set_cons_zero, List.set_cons_succ])
    refine AnyS.branch (rs := [7]) (by kernel_rfl) (by simp) (AllS.cons rfl (fun K hK => ?_) AllS.nil)

    have hM2 := hM.alloc #[.slice an (nrm m g).length cn] 26
    go_simp
    refine hK.out _ _ (.inl (hM2.at 2 rfl)) (fun hU => ?_)
    clear hK K hM
    (try simp only [Act.put, List.setIfInBounds_toArray, List.set_cons_zero, List.set_cons_succ])
    generalize W6.alloc (.cells #[.slice an (nrm m g).length cn] 26) = W8 at *
    generalize W6.heap.size = b21 at *
    have hM := hM2
    clear hM2
    (refine AnyS.take (i := 8) rfl (by kernel_rfl) (by kernel_rfl) (by kernel_rfl) (by rfl) (fun _ _ _ h => h) (by rfl) (by intro w; go_simp; with_reducible rfl) hU (fun hU => ?_); (try simp only [Act.put, List.setIfInBounds_toArray, List.set_cons_zero, List.set_cons_succ]))
    refine AnyS.branch (rs := [9]) (by kernel_rfl) (by simp) (AllS.cons rfl (fun K hK => ?_) AllS.nil)

    have hb21 := hM.blk _ (mem_of_get (i := 0) rfl)
    have HPA : Hid (∀ W, PthAt W (.slice (some ⟨b21, 0, none⟩) 1 1) (.slice none 0 0) (.slice none 0 0) [] (nrm m g) → Calls Try.prog 109 #[.agg (tcells m).toArray, .agg #[.slice (some ⟨b21, 0, none⟩) 1 1, .slice none 0 0, .slice none 0 0]] W (RetO (ordS m 11 [] (nrm m g)) W)) := fun W h => l06Order_any m hwf hok 11 [] (nrm m g) _ _ _ W rfl (fun p h => by cases h) (fun p h => by cases h) (fun p h => by cases h) HGN.out.1 HGN.out.2 h
    have HPT := Lib.hid (pth_one hb21.1 hb21.2 (hM.intsAt 0 rfl))
    go_simp
    refine (HPA.out _ HPT.out).mono ?_
    intro e WX hR
    obtain ⟨rfl, hb9⟩ := hR.form
    clear HPA HPT hb21 hR
    have hM := (hM.call hb9).subG (G' := []) (List.nil_sublist _)
    have hM := hM.sub (L' := [(b14, prC ⟨#[]⟩ 0, 53), (b7, tcells m, 67), (w.heap.size + 1, prC ⟨#[]⟩ 0, 53), (w.heap.size, m.cells, 29)]) (by exact .cons _ (.refl _))
    refine hK.out _ _ (.inl (hM.at 1 rfl)) (fun hU => ?_)
    clear hK K hb9
    (try simp only [Act.put, List.setIfInBounds_toArray, List.set_cons_zero, List.set_cons_succ])
    have HORD : Hid (ordS m 11 [] (nrm m g) = ordW m g) := rfl
    rw [HORD.out]
    (refine AnyS.take (i := 10) rfl (by kernel_rfl) (by kernel_rfl) (by kernel_rfl) (by rfl) (fun _ _ _ h => h) (by rfl) (by intro w; go_simp; with_reducible rfl) hU (fun hU => ?_); (try simp only [Act.put, List.setIfInBounds_toArray, List.set_cons_zero, List.set_cons_succ]); refine AnyS.take (i := 11) rfl (by kernel_rfl) (by kernel_rfl) (by kernel_rfl) (by rfl) (fun _ _ _ h => h) (by rfl) (by intro w; go_simp; with_reducible rfl) hU (fun hU => ?_); (try simp only [Act.put, List.setIfInBounds_toArray, List.set_cons_zero, List.set_cons_succ]); refine AnyS.take (i := 12) rfl (by kernel_rfl) (by kernel_rfl) (by kernel_rfl) (by rfl) (fun _ _ _ h => h) (by rfl) (by intro w; go_simp; with_reducible rfl) hU (fun hU => ?_); (try simp only [Act.put, List.setIfInBounds_toArray, List.set_cons_zero, List.set_cons_succ]); refine AnyS.take (i := 13) rfl (by kernel_rfl) (by kernel_rfl) (by kernel_rfl) (by rfl) (fun _ _ _ h => h) (by rfl) (by intro w; go_simp; with_reducible rfl) hU (fun hU => ?_); (try simp only [Act.put, List.setIfInBounds_toArray, List.set_cons_zero, List.set_cons_succ]))

    generalize hRN : resN (ordW m g) = rn at *
    generalize hRS : resS (ordW m g) = rs at *
    generalize hRF : resF (ordW m g) = rf at *
    generalize hRC : resC (ordW m g) = rc at *
    have HRN := Lib.hid hRN
    have HRS := Lib.hid hRS
    have HRF := Lib.hid hRF
    have HRC := Lib.hid hRC
    clear hRN hRS hRF hRC
    (refine AnyS.take (i := 15) rfl (by kernel_rfl) (by kernel_rfl) (by kernel_rfl) (by rfl) (fun _ _ _ h => h) (by rfl) (by intro w; go_simp; with_reducible rfl) hU (fun hU => ?_); (try simp only [Act.put, List.setIfInBounds_toArray, List.set_cons_zero, List.set_cons_succ]))
    have ht := (hM.at 0 rfl).there 0 2 (by simp [prC])
    have hM2 := hM.setAll 0 rfl (vs := [.string rs, .int .i64 (rf : Int)]) rfl
    have HM2 := Lib.hid hM2
    clear hM hM2
    (refine AnyS.branch (rs := [16]) (by kernel_rfl) (List.cons_ne_nil _ _) ?_; refine AllS.cons rfl ?_ AllS.nil; intro K hK)
    refine ite_of (by kernel_rfl) ?_
    refine wp_st 53 (.tmp 9) (.tmp 25) rfl b14 0 [.string rs, .int .i64 (rf : Int)] rfl rfl ht infoPr (by simp [Value.oneCell']) ?_
    refine hK.out _ _ (.inl (HM2.out.at 1 rfl)) (fun hU => ?_)
    clear hK K ht
    (try simp only [Act.put, List.setIfInBounds_toArray, List.set_cons_zero, List.set_cons_succ])
    (refine AnyS.take (i := 17) rfl (by kernel_rfl) (by kernel_rfl) (by kernel_rfl) (by rfl) (fun _ _ _ h => h) (by rfl) (by intro w; go_simp; with_reducible rfl) hU (fun hU => ?_); (try simp only [Act.put, List.setIfInBounds_toArray, List.set_cons_zero, List.set_cons_succ]))
    refine AnyS.done (by kernel_rfl) ?_ _
    clear hU
    generalize WX.setCells b14 0 [.string rs, .int .i64 (rf : Int)] = WY at *
    go_wp2_with fail
    have hM := HM2.out.drew
    obtain ⟨WZ, hWZ⟩ : ∃ W, W = WY.drew := ⟨_, rfl⟩
    rw [← hWZ] at hM
    refine region_S (fun W => Blk W b14 [.string rs, .int .i64 (rf : Int)] 53) [] 6 rfl HMX.out (by rw [← hWZ]; exact hM.at 0 rfl) (fun hU => ?_)
    rw [← hWZ] at hU ⊢
    clear hWZ HM2
    (refine AnyS.take (i := 0) rfl (by kernel_rfl) (by kernel_rfl) (by kernel_rfl) (by rfl) (fun _ _ _ h => h) (by rfl) (by intro w; go_simp; with_reducible rfl) hU (fun hU => ?_); (try simp only [Act.put, List.setIfInBounds_toArray, List.set_cons_zero, List.set_cons_succ]); refine AnyS.take (i := 2) rfl (by kernel_rfl) (by kernel_rfl) (by kernel_rfl) (by rfl) (fun _ _ _ h => h) (by rfl) (by intro w; go_simp; with_reducible rfl) hU (fun hU => ?_); (try simp only [Act.put, List.setIfInBounds_toArray, List.set_cons_zero, List.set_cons_succ]))
    (refine AnyS.takeS (i := 1) rfl (by kernel_rfl) (by kernel_rfl) (by kernel_rfl) (by rfl) (by kernel_rfl) (by kernel_rfl) (fun _ _ _ h => h) (by rfl) (by intro W hSw; have h0 := hSw.cell' (i := 0) rfl; have h1 := hSw.cell' (i := 1) rfl; clear hSw; go_simp; with_reducible rfl) hU (fun hU => ?_); (try simp only [Act.put, List.setIfInBounds_toArray, List.set_cons_zero, List.set_cons_succ]))
    (refine AnyS.take (i := 3) rfl (by kernel_rfl) (by kernel_rfl) (by kernel_rfl) (by rfl) (fun _ _ _ h => h) (by rfl) (by intro w; go_simp; with_reducible rfl) hU (fun hU => ?_); (try simp only [Act.put, List.setIfInBounds_toArray, List.set_cons_zero, List.set_cons_succ]))
    have ht := (hM.at 2 rfl).there 0 2 (by simp [prC])
    have hM2 := hM.setAll 2 rfl (vs := [.string rs, .int .i64 (rf : Int)]) rfl
    have HM2 := Lib.hid hM2
    clear hM hM2
    (refine AnyS.branch (rs := [4]) (by kernel_rfl) (List.cons_ne_nil _ _) ?_; refine AllS.cons rfl ?_ AllS.nil; intro K hK)
    refine ite_of (by kernel_rfl) ?_
    refine wp_st 53 (.tmp 5) (.tmp 28) rfl (w.heap.size + 1) 0 [.string rs, .int .i64 (rf : Int)] rfl rfl ht infoPr (by simp [Value.oneCell']) ?_
    refine hK.out _ _ (.inl (HM2.out.at 0 rfl)) (fun hU => ?_)
    clear hK K ht
    (try simp only [Act.put, List.setIfInBounds_toArray, List.set_cons_zero, List.set_cons_succ])
    (refine AnyS.take (i := 5) rfl (by kernel_rfl) (by kernel_rfl) (by kernel_rfl) (by rfl) (fun _ _ _ h => h) (by rfl) (by intro w; go_simp; with_reducible rfl) hU (fun hU => ?_); (try simp only [Act.put, List.setIfInBounds_toArray, List.set_cons_zero, List.set_cons_succ]))
    refine AnyS.done (by kernel_rfl) ?_ _
    clear hU
    go_wp2_with fail
    exact bodyPost_ret (v := .tuple #[.int .i64 (rn : Int), .agg #[.string rs, .int .i64 (rf : Int)], .int .i64 (rc : Int)]) (results_mid Try.results69 _ _ (w.heap.size + 1) 53 #[.string rs, .int .i64 (rf : Int)] (0, 0) (.struct _) rfl (HM2.out.at 2 rfl) Try.underlying53 rfl infoPr) rfl ⟨by rw [HRN.out, HRS.out, HRF.out, HRC.out], HM2.out.below⟩
end Go.Proofs.Yteagecoiijhflaa

/- slices.Index and slices.Contains over numbers; the program's search for an order in the memory. -/
namespace Go.Proofs.Yteagecoiijhflaa
open Go.RowKit
set_option linter.unusedVariables false
set_option linter.unusedSimpArgs false

/-- the place of a number in a row, or -1 -/
def idxI (xs : List Int) (y : Int) : Int := if y ∈ xs then (xs.idxOf y : Int) else -1
set_option maxHeartbeats 1000000 in
theorem slIndexI_any (a : Option Addr) (c : Nat) (xs : List Int) (y : Int) (hx : xs.length ≤ 1000000) (w : World) (ha : IntsAt w a xs) :
    Calls Try.prog 154 #[.slice a xs.length c, .int .i64 y] w (RetQ (.int .i64 (idxI xs y)) w) := by
  have HA := Lib.hid ha
  clear ha
  go_enter Try.func154, Try.ntmps154
  go_wp2_with fail
  go_loopw [5, 8] (fun _ i wr => ∃ j : Nat, j ≤ xs.length ∧ i = .int .i64 j ∧ Hid (∃ n, wr = w.drewN n) ∧ Hid (∀ q, q < j → xs[q]?.getD 0 ≠ y)) (fun _ i _ => xs.length - (intOf i).toNat)
  case atStart => exact ⟨0, Nat.zero_le _, rfl, ⟨0, rfl⟩, fun q hq => by omega⟩
  case round =>
    obtain ⟨j, hj, rfl, HW, HN⟩ := hrel
    by_cases hlt : j < xs.length
    · obtain ⟨g, off, rfl, hc⟩ := HA.out j hlt
      have hcell : ∀ a, wr.cell? a = w.cell? a := fun a => by obtain ⟨n, hn⟩ := HW.out; rw [hn]; rfl
      rw [← hcell] at hc
      clear hcell
      have i1 : (0 : Int) ≤ (j : Int) := by omega
      have i2 : (j : Int) < (xs.length : Int) := by omega
      obtain ⟨x, hx⟩ : ∃ x, x = xs[j]?.getD 0 := ⟨_, rfl⟩
      rw [← hx] at hc
      by_cases e : y = x
      · have HR : Hid (idxI xs y = (j : Int)) := by
          show _ = _
          unfold idxI
          rw [e, hx, List.getElem?_eq_getElem hlt, Option.getD_some]
          rw [if_pos (List.getElem_mem hlt)]
          have h1 := List.idxOf_lt_length_iff.2 (List.getElem_mem hlt)
          have h2 : xs[xs.idxOf xs[j]] = xs[j] := List.getElem_idxOf h1
          rcases Nat.lt_trichotomy (xs.idxOf xs[j]) j with c | c | c
          · exfalso
            have := HN.out _ c
            rw [List.getElem?_eq_getElem h1, Option.getD_some, h2] at this
            rw [List.getElem?_eq_getElem hlt, Option.getD_some] at hx
            exact this (by rw [e, hx])
          · rw [c]
          · exfalso
            have := List.not_of_lt_findIdx (p := (· == xs[j])) (xs := xs) (i := j) (by simpa [List.idxOf] using c)
            simp at this
        subst e
        clear hx
        go_wp2_with fail
        go_ret
        exact ⟨ret_int HR.out.symm, HW.out⟩
      · have HN2 : Hid (∀ q, q < j + 1 → xs[q]?.getD 0 ≠ y) := fun q hq => by
          by_cases h : q = j
          · subst h; rw [← hx]; exact Ne.symm e
          · exact HN.out q (by omega)
        have e1 : (y == x) = false := by simpa using e
        clear hx
        go_wp2_with fail
        go_roundw
        case rel => exact ⟨j + 1, by omega, by go_num, HW.out, HN2⟩
        case measure => simp [intOf] <;> omega
    · have HR : Hid (idxI xs y = -1) := if_neg fun h => by
        obtain ⟨q, hq, e⟩ := List.getElem_of_mem h
        exact HN.out q (by omega) (by rw [List.getElem?_eq_getElem hq, Option.getD_some, e])
      have hj' : ¬ (j : Int) < xs.length := by omega
      go_wp2_with fail
      go_ret
      exact ⟨ret_int HR.out.symm, HW.out⟩
theorem slContainsI_any (a : Option Addr) (c : Nat) (xs : List Int) (y : Int) (hx : xs.length ≤ 1000000) (w : World) (ha : IntsAt w a xs) :
    Calls Try.prog 140 #[.slice a xs.length c, .int .i64 y] w (RetQ (.bool (decide (y ∈ xs))) w) := by
  have HX := Lib.hid (slIndexI_any a c xs y hx w ha)
  go_enter Try.func140, Try.ntmps140
  by_cases h : y ∈ xs
  · rw [show idxI xs y = (xs.idxOf y : Int) from if_pos h] at HX
    have H := Lib.hid (decide_eq_true h)
    generalize xs.idxOf y = q at *
    have i1 : (0 : Int) ≤ (q : Int) := by omega
    clear h ha
    go_wp2_with (refine HX.out.mono ?_; rintro e w1 ⟨rfl, n, rfl⟩)
    go_ret
    exact ⟨ret_bool H.out.symm, n, rfl⟩
  · rw [show idxI xs y = -1 from if_neg h] at HX
    have H := Lib.hid (decide_eq_false h)
    clear h ha
    go_wp2_with (refine HX.out.mono ?_; rintro e w1 ⟨rfl, n, rfl⟩)
    go_ret
    exact ⟨ret_bool H.out.symm, n, rfl⟩
end Go.Proofs.Yteagecoiijhflaa
