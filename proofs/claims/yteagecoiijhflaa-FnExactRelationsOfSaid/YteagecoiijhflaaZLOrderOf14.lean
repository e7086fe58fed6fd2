import Derived.Test.YteagecoiijhflaaZLOrderOf13
import Derived.Test.YteagecoiijhflaaZLOrderOf01
import Derived.Test.YteagecoiijhflaaZLOrderOf12
import Derived.Test.YteagecoiijhflaaZLOrderOf11
import Derived.Test.YteagecoiijhflaaZLOrderOf07
/- Cycles and returns of the reference. -/
namespace Go.Proofs.Yteagecoiijhflaa
open Go.RowKit
set_option linter.unusedVariables false
set_option linter.unusedSimpArgs false

theorem turn_at {m : Mch} (hwf : m.Wf) (hok : m.Ok) {w : World} {b T : Nat} (h : Blk w b (tcells m) T) :
    MAt w b 0 m ∧ MAt w b 98 (invM m) ∧ w.rangeAt b 196 (clsV m) ∧ w.rangeAt b 212 (trvV m) := by
  have hl1 := Mch.cells_length hwf
  have hl2 := Mch.cells_length (invM_wf hok hwf)
  have hl3 := clsV_len m
  refine ⟨h.range 0 _ (fun j v hj => ?_), h.range 98 _ (fun j v hj => ?_), h.range 196 _ (fun j v hj => ?_), h.range 212 _ (fun j v hj => ?_)⟩
  · have : j < m.cells.length := (List.getElem?_eq_some_iff.1 hj).1
    simp only [tcells, Nat.zero_add]
    rw [List.getElem?_append_left this]; exact hj
  · have : j < (invM m).cells.length := (List.getElem?_eq_some_iff.1 hj).1
    simp only [tcells]
    rw [List.getElem?_append_right (by omega), hl1, show 98 + j - 98 = j by omega, List.getElem?_append_left this]; exact hj
  · have : j < (clsV m).length := (List.getElem?_eq_some_iff.1 hj).1
    simp only [tcells]
    rw [List.getElem?_append_right (by omega), hl1, List.getElem?_append_right (by omega), hl2, show 196 + j - 98 - 98 = j by omega, List.getElem?_append_left this]; exact hj
  · have : j < (trvV m).length := (List.getElem?_eq_some_iff.1 hj).1
    simp only [tcells]
    rw [List.getElem?_append_right (by omega), hl1, List.getElem?_append_right (by omega), hl2, List.getElem?_append_right (by omega), hl3, show 212 + j - 98 - 98 - 16 = j by omega]; exact hj

def cycB (m : Mch) (g : Wd) (x i : Nat) : List Value := (List.range i).map fun j => .int .u8 (itX m g x j : Int)
theorem cycB_len (m : Mch) (g : Wd) (x i : Nat) : (cycB m g x i).length = i := by simp [cycB]
theorem cycB_snoc (m : Mch) (g : Wd) (x i : Nat) : cycB m g x (i + 1) = cycB m g x i ++ [.int .u8 (itX m g x i : Int)] := by simp [cycB, List.range_succ]
theorem cycB_get (m : Mch) (g : Wd) (x : Nat) {i n : Nat} (h : i < n) : (cycB m g x n)[i]? = some (.int .u8 (itX m g x i : Int)) := by
  simp [cycB, List.getElem?_map, List.getElem?_range h]

set_option maxRecDepth 100000 in
set_option maxHeartbeats 2000000 in
theorem l06Cycle_any (m : Mch) (hwf : m.Wf) (hok : m.Ok) (a : Option Addr) (g : Wd) (c : Nat) (hg : GW m g) (hl : g.length ≤ 1000) (x : Nat) (hx : x < m.l) (w : World) (hI : IntsAt w a g) :
    Calls Try.prog 85 #[.agg (tcells m).toArray, .slice a g.length c, .int .u8 (x : Int)] w fun e w' => ∃ v, e = .returned v ∧ Below w.heap.size w w' ∧ w'.ownsRow w.heap.size 5 1 v (cycN m g x) (cycB m g x (cycN m g x)) := by
  obtain ⟨i0, hi, hz0, hz1, hz2⟩ := info_parts Try.info5
  have h3 := hok.l_le
  have hwi := invM_wf hok hwf
  have HI := Lib.hid hI
  have HGW := Lib.hid hg
  have HN := Lib.hid (cycN_le m g x)
  have HIT := Lib.hid (itX_cyc hok hwf hg hx)
  have HIM := Lib.hid (mach_info hwf)
  have HII := Lib.hid (mach_info hwi)
  have hmx : Try.prog.follows .mixedOrders = true := by kernel_rfl
  have HMX := Lib.hid hmx
  have hM0 := ((Mm.start w).alloc (tcells m).toArray 67).newOwn #[.int .u8 (x : Int)] 5 1 rfl (by omega)
  rw [show (w.alloc (.cells (tcells m).toArray 67)).heap.size = w.heap.size + 1 by simp] at hM0
  clear hI hg hmx
  go_enter Try.func85, Try.ntmps85
  go_wp2_with fail
  go_loopw [7] (fun v wr => ∃ j : Nat, Hid (j + 1 ≤ cycN m g x) ∧ Mm w.heap.size w wr [(w.heap.size, tcells m, 67)] [(v, 5, cycB m g x (j + 1))]) (fun v _ => 4 - slLn v)
  case atStart => exact ⟨0, HN.out.1, hM0⟩
  case round =>
    clear hM0
    obtain ⟨j, HJ, hM⟩ := hrel
    have hj : j ≤ 2 := by have := HJ.out; have := HN.out.2; omega
    have hMd := hM.drew
    have hO := hMd.own _ (List.mem_cons_self ..)
    simp only at hO
    have hcap0 := own_cap hO
    obtain ⟨gv, cv, rfl, -, -, hcl⟩ := own_form hO (by rw [cycB_len]; omega)
    have hcap : j + 1 ≤ cv := by have := hcap0 _ _ _ rfl; rw [cycB_len] at this; exact this
    have c1 := hcl j _ (cycB_get m g x (Nat.lt_succ_self j))
    have hy := itX_lt hok hwf HGW.out hx j
    have hln : (cycB m g x (j + 1)).length = j + 1 := cycB_len ..
    rw [hln]
    rw [hln] at hMd
    have hS0 : Below w.heap.size w wr.drew := hMd.below
    have HSM : Hid (∀ W, Below wr.drew.heap.size wr.drew W → MAt W w.heap.size 0 m ∧ MAt W w.heap.size 98 (invM m) ∧ W.cell? ⟨gv, j, none⟩ = some (.int .u8 (itX m g x j : Int))) := fun W hW => by
      have h1 := turn_at hwf hok ((hMd.call hW).at 0 rfl)
      exact ⟨h1.1, h1.2.1, (hW.cell (World.block_lt_of_cell? _ _ c1)).trans c1⟩
    have HS := Lib.hid (cycB_snoc m g x (j + 1))
    have HE : Hid (itX m g x (j + 1) = x → j + 1 = cycN m g x) := fun e => by
      have h1 := HJ.out
      by_cases c : j + 1 < cycN m g x
      · exact absurd e (itX_ne (by omega) c)
      · omega
    have HE2 : Hid (itX m g x (j + 1) ≠ x → j + 2 ≤ cycN m g x) := fun e => by
      have h1 := HJ.out
      by_cases c : j + 1 = cycN m g x
      · rw [c] at e; exact absurd HIT.out e
      · omega
    have HLED : Hid (∀ W, Below w.heap.size w W → Calls Try.prog 86 #[.agg m.cells.toArray, .agg (invM m).cells.toArray, .slice a g.length c, .int .u8 (itX m g x j : Int)] W fun e w' => ∃ v, e = .returned (.tuple #[.int .u8 (itX m g x (j + 1) : Int), v]) ∧ Below W.heap.size W w' ∧ OwnI w' W.heap.size v (ledS m g (itX m g x j))) := fun W hW => l02Led_any m hwf hok a g c HGW.out hl (itX m g x j) hy W (HI.out.keep hW)
    have i1 : (0 : Int) ≤ (j : Int) := by omega
    have i2 : (j : Int) < ((j + 1 : Nat) : Int) := by omega
    have i3 : (j : Int) < (j : Int) + 1 := by omega
    have e1 : IntKind.i64.wrap (((j + 1 : Nat) : Int) - 1) = (j : Int) := by rw [IntWalk.i64_in _ (by omega)]; omega
    clear hO hcl hcap0 hM c1
    have HYL : Hid (itX m g x (j + 1) < m.l) := itX_lt hok hwf HGW.out hx (j + 1)
    clear hy
    generalize itX m g x (j + 1) = y at *
    generalize itX m g x j = z at *
    go_wp2_with fail
    refine region_S (fun W => MAt W w.heap.size 0 m ∧ MAt W w.heap.size 98 (invM m) ∧ W.cell? ⟨gv, j, none⟩ = some (.int .u8 (z : Int))) [] 17 rfl HMX.out (HSM.out _ (Below.refl _ _)) (fun hU => ?_)
    obtain ⟨W, hW⟩ : ∃ W, W = wr.drew := ⟨_, rfl⟩
    rw [← hW] at hU hMd HSM hS0 ⊢
    clear hW
    (refine AnyS.take (i := 0) rfl (by kernel_rfl) (by kernel_rfl) (by kernel_rfl) (by rfl) (fun _ _ _ h => h) (by rfl) (by intro w; go_simp; with_reducible rfl) hU (fun hU => ?_); (try simp only [Act.put, List.setIfInBounds_toArray, List.set_cons_zero, List.set_cons_succ]); refine AnyS.take (i := 2) rfl (by kernel_rfl) (by kernel_rfl) (by kernel_rfl) (by rfl) (fun _ _ _ h => h) (by rfl) (by intro w; go_simp; with_reducible rfl) hU (fun hU => ?_); (try simp only [Act.put, List.setIfInBounds_toArray, List.set_cons_zero, List.set_cons_succ]); refine AnyS.take (i := 4) rfl (by kernel_rfl) (by kernel_rfl) (by kernel_rfl) (by rfl) (fun _ _ _ h => h) (by rfl) (by intro w; go_simp; with_reducible rfl) hU (fun hU => ?_); (try simp only [Act.put, List.setIfInBounds_toArray, List.set_cons_zero, List.set_cons_succ]); refine AnyS.take (i := 5) rfl (by kernel_rfl) (by kernel_rfl) (by kernel_rfl) (by rfl) (fun _ _ _ h => h) (by rfl) (by intro w; go_simp; with_reducible rfl) hU (fun hU => ?_); (try simp only [Act.put, List.setIfInBounds_toArray, List.set_cons_zero, List.set_cons_succ]); refine AnyS.take (i := 6) rfl (by kernel_rfl) (by kernel_rfl) (by kernel_rfl) (by rfl) (fun _ _ _ h => h) (by rfl) (by intro w; go_simp; with_reducible rfl) hU (fun hU => ?_); (try simp only [Act.put, List.setIfInBounds_toArray, List.set_cons_zero, List.set_cons_succ]))
    (refine AnyS.takeS (i := 1) rfl (by kernel_rfl) (by kernel_rfl) (by kernel_rfl) (by rfl) (by kernel_rfl) (by kernel_rfl) (fun _ _ _ h => h) (by rfl) (fun W hW => run_ld Try.underlying29 rfl HIM.out (.tmp 13) rfl rfl hW.1) hU (fun hU => ?_); (try simp only [Act.put, List.setIfInBounds_toArray, List.set_cons_zero, List.set_cons_succ]))
    (refine AnyS.takeS (i := 3) rfl (by kernel_rfl) (by kernel_rfl) (by kernel_rfl) (by rfl) (by kernel_rfl) (by kernel_rfl) (fun _ _ _ h => h) (by rfl) (fun W hW => run_ld Try.underlying29 rfl HII.out (.tmp 15) rfl rfl hW.2.1) hU (fun hU => ?_); (try simp only [Act.put, List.setIfInBounds_toArray, List.set_cons_zero, List.set_cons_succ]))
    (refine AnyS.take (i := 7) rfl (by kernel_rfl) (by kernel_rfl) (by kernel_rfl) (by rfl) (fun _ _ _ h => h) (by rfl) (by intro w; go_simp; with_reducible rfl) hU (fun hU => ?_); (try simp only [Act.put, List.setIfInBounds_toArray, List.set_cons_zero, List.set_cons_succ]); refine AnyS.take (i := 8) rfl (by kernel_rfl) (by kernel_rfl) (by kernel_rfl) (by rfl) (fun _ _ _ h => h) (by rfl) (by intro w; go_simp; with_reducible rfl) hU (fun hU => ?_); (try simp only [Act.put, List.setIfInBounds_toArray, List.set_cons_zero, List.set_cons_succ]))
    rw [IntWalk.i64_in (j : Int) (by omega)]
    (refine AnyS.take (i := 9) rfl (by kernel_rfl) (by kernel_rfl) (by kernel_rfl) (by rfl) (fun _ _ _ h => h) (by rfl) (by intro w; go_simp; with_reducible rfl) hU (fun hU => ?_); (try simp only [Act.put, List.setIfInBounds_toArray, List.set_cons_zero, List.set_cons_succ]))
    (refine AnyS.takeS (i := 10) rfl (by kernel_rfl) (by kernel_rfl) (by kernel_rfl) (by rfl) (by kernel_rfl) (by kernel_rfl) (fun _ _ _ h => h) (by rfl) (by intro W hSw; have h1 := hSw.2.2; clear hSw; go_simp; with_reducible rfl) hU (fun hU => ?_); (try simp only [Act.put, List.setIfInBounds_toArray, List.set_cons_zero, List.set_cons_succ]))
    refine AnyS.branch (rs := [11]) (by kernel_rfl) (by simp) (AllS.cons rfl (fun K hK => ?_) AllS.nil)
    go_simp
    refine (HLED.out _ hS0).mono ?_
    rintro e w5 ⟨v, rfl, hb5, hO5⟩
    have hM5 := hMd.call hb5
    refine hK.out _ _ (.inl (HSM.out _ hb5)) (fun hU => ?_)
    clear hK K hMd
    (try simp only [Act.put, List.setIfInBounds_toArray, List.set_cons_zero, List.set_cons_succ])
    (refine AnyS.take (i := 12) rfl (by kernel_rfl) (by kernel_rfl) (by kernel_rfl) (by rfl) (fun _ _ _ h => h) (by rfl) (by intro w; go_simp; with_reducible rfl) hU (fun hU => ?_); (try simp only [Act.put, List.setIfInBounds_toArray, List.set_cons_zero, List.set_cons_succ]); refine AnyS.take (i := 13) rfl (by kernel_rfl) (by kernel_rfl) (by kernel_rfl) (by rfl) (fun _ _ _ h => h) (by rfl) (by intro w; go_simp; with_reducible rfl) hU (fun hU => ?_); (try simp only [Act.put, List.setIfInBounds_toArray, List.set_cons_zero, List.set_cons_succ]); refine AnyS.take (i := 14) rfl (by kernel_rfl) (by kernel_rfl) (by kernel_rfl) (by rfl) (fun _ _ _ h => h) (by rfl) (by intro w; go_simp; with_reducible rfl) hU (fun hU => ?_); (try simp only [Act.put, List.setIfInBounds_toArray, List.set_cons_zero, List.set_cons_succ]); refine AnyS.take (i := 15) rfl (by kernel_rfl) (by kernel_rfl) (by kernel_rfl) (by rfl) (fun _ _ _ h => h) (by rfl) (by intro w; go_simp; with_reducible rfl) hU (fun hU => ?_); (try simp only [Act.put, List.setIfInBounds_toArray, List.set_cons_zero, List.set_cons_succ]); refine AnyS.take (i := 16) rfl (by kernel_rfl) (by kernel_rfl) (by kernel_rfl) (by rfl) (fun _ _ _ h => h) (by rfl) (by intro w; go_simp; with_reducible rfl) hU (fun hU => ?_); (try simp only [Act.put, List.setIfInBounds_toArray, List.set_cons_zero, List.set_cons_succ]))
    refine AnyS.done (by kernel_rfl) ?_ _
    clear hU HSM HLED hO5 hb5 hS0
    by_cases e : y = x
    · have h1 := HE.out e
      have hO := hM5.own _ (List.mem_cons_self ..)
      simp only at hO
      rw [hln] at hO
      rw [h1] at hO
      have HO := Lib.hid hO
      have hb := hM5.below
      subst e
      rw [h1]
      clear hM5 HE HE2 hO
      go_wp2_with fail
      go_ret
      exact ⟨_, rfl, hb, HO.out⟩
    · have h1 := Lib.hid (HE2.out e)
      have e2 : ((y : Int) == (x : Int)) = false := by simp; omega
      clear HE HE2 e
      go_wp2_with (at_builtin; refine Mm.append rfl (.tmp 31) (.tmp 33) 106 rfl hM5 0 rfl Try.underlying106 hi hz0 hz1 hz2 rfl rfl rfl rfl (by omega) (by omega) ?_)
      intro g' cap' w3 hM3
      have HM3 : Hid (Mm w.heap.size w w3 [(w.heap.size, tcells m, 67)] [(.slice (some ⟨g', 0, none⟩) (j + 1 + 1) cap', 5, cycB m g x (j + 1 + 1))]) := by
        rw [HS.out]; show Mm _ _ _ _ _; simpa [cycB_len] using hM3
      clear hM5 hM3
      go_wp2_with fail
      go_roundw
      case rel => exact ⟨j + 1, h1.out, HM3.out⟩
      case measure => simp [slLn] <;> omega
end Go.Proofs.Yteagecoiijhflaa

/- Returns of the reference. -/
namespace Go.Proofs.Yteagecoiijhflaa
open Go.RowKit
set_option linter.unusedVariables false
set_option linter.unusedSimpArgs false

def RetT (r : Option (Wd × Nat)) (w : World) (e : Ending) (w' : World) : Prop := match r with
  | none => e = .returned (.tuple #[.slice none 0 0, .int .i64 0, .bool false]) ∧ Below w.heap.size w w'
  | some (s, k) => ∃ v, e = .returned (.tuple #[v, .int .i64 k, .bool true]) ∧ Below w.heap.size w w' ∧ OwnI w' w.heap.size v s

set_option maxRecDepth 100000 in
set_option maxHeartbeats 2000000 in
theorem l06Return_any (m : Mch) (hwf : m.Wf) (hok : m.Ok) (a : Option Addr) (g : Wd) (c : Nat) (hg : GW m g) (hl : g.length ≤ 40) (x : Nat) (hx : x < m.l) (w : World) (hI : IntsAt w a g) :
    Calls Try.prog 55 #[.agg (tcells m).toArray, .slice a g.length c, .int .u8 (x : Int)] w (RetT (retR m g x) w) := by
  obtain ⟨i0, hi, hz0, hz1, hz2⟩ := info_parts Try.info2
  have hwi := invM_wf hok hwf
  have HI := Lib.hid hI
  have HGW := Lib.hid hg
  have HIM := Lib.hid (mach_info hwf)
  have HII := Lib.hid (mach_info hwi)
  have HT := Lib.hid (infoT228 hwf hok)
  have hmx : Try.prog.follows .mixedOrders = true := by kernel_rfl
  have HMX := Lib.hid hmx
  have hn := cycN_le m g x
  have hM0 := (Mm.start w).alloc (tcells m).toArray 67
  have hrange := (hM0.at 0 rfl).all
  simp only at hrange
  have HC := Lib.hid (l06Cycle_any m hwf hok a g c hg (by omega) x hx _ (hI.keep hM0.below))
  have HM0 := Lib.hid hM0
  have HR : Hid (retR m g x = if 40 < cycN m g x * g.length then none else some (nrm m (ledS m (repW g (cycN m g x)) x), cycN m g x)) := by show _ = _; rfl
  have hm1 : cycN m g x * g.length ≤ 120 := by
    have := Nat.mul_le_mul hn.2 hl
    omega
  clear hI hg hmx hM0
  generalize hk : cycN m g x = k at *
  have e1 : IntKind.i64.wrap ((k : Int) * (g.length : Int)) = ((k * g.length : Nat) : Int) := by rw [← Int.natCast_mul, IntWalk.i64_in _ (by omega)]
  go_enter Try.func55, Try.ntmps55
  go_wp2_with ((with_reducible refine ld_row ?_ 67 (.tmp 3) ?_ w.heap.size 0 ?_ (tcells m) (.struct _) hrange Try.underlying67 ?_ HT.out ?_); exact rfl; exact rfl; exact rfl; exact rfl)
  refine HC.out.mono ?_
  rintro e w1 ⟨v1, rfl, hb1, hO1⟩
  have hM1 := HM0.out.callOwn hb1 hO1 (by rw [cycB_len])
  obtain ⟨gv, cv, rfl, -, -, hcl⟩ := own_form hO1 (by omega)
  have hM2 := hM1.newOwn #[] 2 0 rfl (by omega)
  clear HC hrange HM0 hO1 hb1 hcl hM1
  by_cases h40 : 40 < k * g.length
  · have hr : Hid (retR m g x = none) := HR.out.trans (if_pos h40)
    have h4 : (40 : Int) < ((k * g.length : Nat) : Int) := by omega
    have hb := hM2.below
    clear HR hM2
    go_wp2_with fail
    go_ret3
    rw [hr.out]
    exact ⟨rfl, hb⟩
  · have hr : Hid (retR m g x = some (nrm m (ledS m (repW g k) x), k)) := HR.out.trans (if_neg h40)
    have h4 : ((k * g.length : Nat) : Int) ≤ 40 := by omega
    clear HR
    go_wp2_with fail
    clear h4 e1
    have HCI := Lib.hid (cls_info m)
    have HTI := Lib.hid (trv_info m)
    have hkx : (cycB m g x k).length = k := cycB_len ..
    have HNN := Lib.hid hn
    go_loopw [10, 11] (fun out i wr => ∃ j : Nat, j ≤ k ∧ i = .int .i64 j ∧ Mm w.heap.size w wr [(w.heap.size, tcells m, 67)] [(out, 2, i64s (ledS m (repW g j) x)), (.slice (some ⟨gv, 0, none⟩) k cv, 5, cycB m g x k)]) (fun _ i _ => k - (intOf i).toNat)
    case atStart => exact ⟨0, Nat.zero_le _, rfl, hM2⟩
    case round =>
      clear hM2
      obtain ⟨j, hj, rfl, hM⟩ := hrel
      have hlj : (ledS m (repW g j) x).length ≤ 120 := by
        rw [ledS_len, repW_len]
        have := Nat.mul_le_mul_right g.length hj
        omega
      have HLJ := Lib.hid hlj
      by_cases hlt : j < k
      · have hMd := hM.drew
        have hO := hMd.own _ (List.mem_cons_of_mem _ (List.mem_cons_self ..))
        simp only at hO
        have c1 := hO.cells (g := gv) rfl j _ (cycB_get m g x hlt)
        rw [show (⟨gv, 0, none⟩ : Addr).add j = ⟨gv, j, none⟩ by unfold Addr.add; split <;> simp_all] at c1
        have hy := itX_lt hok hwf HGW.out hx j
        have hS0 : Below w.heap.size w wr.drew := hMd.below
        have HSM : Hid (∀ W, Below wr.drew.heap.size wr.drew W → MAt W w.heap.size 0 m ∧ MAt W w.heap.size 98 (invM m) ∧ W.cell? ⟨gv, j, none⟩ = some (.int .u8 (itX m g x j : Int))) := fun W hW => by
          have h1 := turn_at hwf hok ((hMd.call hW).at 0 rfl)
          exact ⟨h1.1, h1.2.1, (hW.cell (World.block_lt_of_cell? _ _ c1)).trans c1⟩
        have HLED : Hid (∀ W, Below w.heap.size w W → Calls Try.prog 86 #[.agg m.cells.toArray, .agg (invM m).cells.toArray, .slice a g.length c, .int .u8 (itX m g x j : Int)] W fun e w' => ∃ v, e = .returned (.tuple #[.int .u8 (ledX m g (itX m g x j) : Int), v]) ∧ Below W.heap.size W w' ∧ OwnI w' W.heap.size v (ledS m g (itX m g x j))) := fun W hW => l02Led_any m hwf hok a g c HGW.out (by omega) (itX m g x j) hy W (HI.out.keep hW)
        have HNX := Lib.hid (ledS_rep m g x j)
        have HSL := Lib.hid (ledS_len m g (itX m g x j))
        have i1 : (0 : Int) ≤ (j : Int) := by omega
        have i2 : (j : Int) < (k : Int) := by omega
        clear hO hM c1 hy
        generalize ledX m g (itX m g x j) = y at *
        generalize ledS m g (itX m g x j) = sec at *
        generalize itX m g x j = z at *
        go_wp2_with fail
        refine region_S (fun W => MAt W w.heap.size 0 m ∧ MAt W w.heap.size 98 (invM m) ∧ W.cell? ⟨gv, j, none⟩ = some (.int .u8 (z : Int))) [] 15 rfl HMX.out (HSM.out _ (Below.refl _ _)) (fun hU => ?_)
        obtain ⟨W, hW⟩ : ∃ W, W = wr.drew := ⟨_, rfl⟩
        rw [← hW] at hU hMd HSM hS0 ⊢
        clear hW
        (refine AnyS.take (i := 0) rfl (by kernel_rfl) (by kernel_rfl) (by kernel_rfl) (by rfl) (fun _ _ _ h => h) (by rfl) (by intro w; go_simp; with_reducible rfl) hU (fun hU => ?_); (try simp only [Act.put, List.setIfInBounds_toArray, List.set_cons_zero, List.set_cons_succ]); refine AnyS.take (i := 2) rfl (by kernel_rfl) (by kernel_rfl) (by kernel_rfl) (by rfl) (fun _ _ _ h => h) (by rfl) (by intro w; go_simp; with_reducible rfl) hU (fun hU => ?_); (try simp only [Act.put, List.setIfInBounds_toArray, List.set_cons_zero, List.set_cons_succ]); refine AnyS.take (i := 4) rfl (by kernel_rfl) (by kernel_rfl) (by kernel_rfl) (by rfl) (fun _ _ _ h => h) (by rfl) (by intro w; go_simp; with_reducible rfl) hU (fun hU => ?_); (try simp only [Act.put, List.setIfInBounds_toArray, List.set_cons_zero, List.set_cons_succ]); refine AnyS.take (i := 5) rfl (by kernel_rfl) (by kernel_rfl) (by kernel_rfl) (by rfl) (fun _ _ _ h => h) (by rfl) (by intro w; go_simp; with_reducible rfl) hU (fun hU => ?_); (try simp only [Act.put, List.setIfInBounds_toArray, List.set_cons_zero, List.set_cons_succ]); refine AnyS.take (i := 6) rfl (by kernel_rfl) (by kernel_rfl) (by kernel_rfl) (by rfl) (fun _ _ _ h => h) (by rfl) (by intro w; go_simp; with_reducible rfl) hU (fun hU => ?_); (try simp only [Act.put, List.setIfInBounds_toArray, List.set_cons_zero, List.set_cons_succ]); refine AnyS.take (i := 7) rfl (by kernel_rfl) (by kernel_rfl) (by kernel_rfl) (by rfl) (fun _ _ _ h => h) (by rfl) (by intro w; go_simp; with_reducible rfl) hU (fun hU => ?_); (try simp only [Act.put, List.setIfInBounds_toArray, List.set_cons_zero, List.set_cons_succ]))
        (refine AnyS.takeS (i := 1) rfl (by kernel_rfl) (by kernel_rfl) (by kernel_rfl) (by rfl) (by kernel_rfl) (by kernel_rfl) (fun _ _ _ h => h) (by rfl) (fun W hW => run_ld Try.underlying29 rfl HIM.out (.tmp 32) rfl rfl hW.1) hU (fun hU => ?_); (try simp only [Act.put, List.setIfInBounds_toArray, List.set_cons_zero, List.set_cons_succ]))
        (refine AnyS.takeS (i := 3) rfl (by kernel_rfl) (by kernel_rfl) (by kernel_rfl) (by rfl) (by kernel_rfl) (by kernel_rfl) (fun _ _ _ h => h) (by rfl) (fun W hW => run_ld Try.underlying29 rfl HII.out (.tmp 34) rfl rfl hW.2.1) hU (fun hU => ?_); (try simp only [Act.put, List.setIfInBounds_toArray, List.set_cons_zero, List.set_cons_succ]))
        (refine AnyS.takeS (i := 8) rfl (by kernel_rfl) (by kernel_rfl) (by kernel_rfl) (by rfl) (by kernel_rfl) (by kernel_rfl) (fun _ _ _ h => h) (by rfl) (by intro W hSw; have h1 := hSw.2.2; clear hSw; go_simp; with_reducible rfl) hU (fun hU => ?_); (try simp only [Act.put, List.setIfInBounds_toArray, List.set_cons_zero, List.set_cons_succ]))
        refine AnyS.branch (rs := [9]) (by kernel_rfl) (by simp) (AllS.cons rfl (fun K hK => ?_) AllS.nil)
        go_simp
        refine (HLED.out _ hS0).mono ?_
        rintro e w5 ⟨v, rfl, hb5, hO5⟩
        have hM5 := hMd.call hb5
        have HO5 := Lib.hid hO5
        refine hK.out _ _ (.inl (HSM.out _ hb5)) (fun hU => ?_)
        clear hK K hMd
        (try simp only [Act.put, List.setIfInBounds_toArray, List.set_cons_zero, List.set_cons_succ])
        (refine AnyS.take (i := 10) rfl (by kernel_rfl) (by kernel_rfl) (by kernel_rfl) (by rfl) (fun _ _ _ h => h) (by rfl) (by intro w; go_simp; with_reducible rfl) hU (fun hU => ?_); (try simp only [Act.put, List.setIfInBounds_toArray, List.set_cons_zero, List.set_cons_succ]); refine AnyS.take (i := 11) rfl (by kernel_rfl) (by kernel_rfl) (by kernel_rfl) (by rfl) (fun _ _ _ h => h) (by rfl) (by intro w; go_simp; with_reducible rfl) hU (fun hU => ?_); (try simp only [Act.put, List.setIfInBounds_toArray, List.set_cons_zero, List.set_cons_succ]); refine AnyS.take (i := 12) rfl (by kernel_rfl) (by kernel_rfl) (by kernel_rfl) (by rfl) (fun _ _ _ h => h) (by rfl) (by intro w; go_simp; with_reducible rfl) hU (fun hU => ?_); (try simp only [Act.put, List.setIfInBounds_toArray, List.set_cons_zero, List.set_cons_succ]); refine AnyS.take (i := 13) rfl (by kernel_rfl) (by kernel_rfl) (by kernel_rfl) (by rfl) (fun _ _ _ h => h) (by rfl) (by intro w; go_simp; with_reducible rfl) hU (fun hU => ?_); (try simp only [Act.put, List.setIfInBounds_toArray, List.set_cons_zero, List.set_cons_succ]); refine AnyS.take (i := 14) rfl (by kernel_rfl) (by kernel_rfl) (by kernel_rfl) (by rfl) (fun _ _ _ h => h) (by rfl) (by intro w; go_simp; with_reducible rfl) hU (fun hU => ?_); (try simp only [Act.put, List.setIfInBounds_toArray, List.set_cons_zero, List.set_cons_succ]))
        refine AnyS.done (by kernel_rfl) ?_ _
        clear hU HSM HLED hO5 hb5 hS0
        have hsl : (i64s sec).length ≤ 1000000 := by simp only [i64s, List.length_map, HSL.out]; omega
        have hol : (i64s (ledS m (repW g j) x)).length ≤ 1000000 := by simp only [i64s, List.length_map]; have := HLJ.out; omega
        go_wp2_with (at_builtin; refine Mm.appendRow rfl (.tmp 44) (.tmp 45) 26 rfl hM5 0 rfl Try.underlying26 hi hz0 hz1 hz2 rfl rfl rfl (n := sec.length) (by simp [i64s]) HO5.out (fun y hy => by obtain ⟨x, -, rfl⟩ := List.mem_map.1 hy; rfl) hol hsl (by omega) ?_)
        intro v' w3 hM3
        have HM3 : Hid (Mm w.heap.size w w3 [(w.heap.size, tcells m, 67)] [(v', 2, i64s (ledS m (repW g (j + 1)) x)), (.slice (some ⟨gv, 0, none⟩) k cv, 5, cycB m g x k)]) := by
          rw [HNX.out]; show Mm _ _ _ _ _; simpa [i64s] using hM3
        clear hM5 hM3 HO5
        go_wp2_with fail
        go_roundw
        case rel => exact ⟨j + 1, by omega, by go_num, HM3.out⟩
        case measure => simp [intOf] <;> omega
      · have hj' : j = k := by omega
        subst hj'
        have hO := hM.own _ (List.mem_cons_self ..)
        obtain ⟨ao, co, rfl, hIo⟩ := (OwnI.of_row hO).form
        obtain ⟨-, -, hr1, hr2⟩ := turn_at hwf hok (hM.at 0 rfl)
        have HNO := Lib.hid (l02Normal_any m hok ao (ledS m (repW g j) x) co (ledS_gw hok hwf (repW_gw HGW.out j) hx) (by omega) wr hIo)
        have hbw := hM.below
        clear hO hM hIo hkx
        go_wp2_with (first | ((with_reducible refine ld_row ?_ 64 (.tmp 48) ?_ w.heap.size 196 ?_ (clsV m) (.array 16 2) hr1 Try.underlying64 ?_ HCI.out ?_); exact rfl; exact rfl; exact rfl; exact rfl) | ((with_reducible refine ld_row ?_ 65 (.tmp 50) ?_ w.heap.size 212 ?_ (trvV m) (.array 16 4) hr2 Try.underlying65 ?_ HTI.out ?_); exact rfl; exact rfl; exact rfl; exact rfl))
        refine HNO.out.mono ?_
        rintro e w4 ⟨v, rfl, hb4, hO4⟩
        have hbb := hbw.trans (hb4.mono hbw.size)
        have HO4 := Lib.hid (hO4.less hbw.size)
        clear HNO hr1 hr2 hO4
        go_wp2_with fail
        go_ret3
        rw [hr.out]
        exact ⟨_, rfl, hbb, HO4.out⟩
end Go.Proofs.Yteagecoiijhflaa

/- ReturnOf of the reference. -/
namespace Go.Proofs.Yteagecoiijhflaa
open Go.RowKit
set_option linter.unusedVariables false
set_option linter.unusedSimpArgs false

set_option maxRecDepth 100000 in
set_option maxHeartbeats 2000000 in
theorem specReturnOf_any (m : Mch) (hwf : m.Wf) (a : Option Addr) (g : Wd) (c : Nat) (hl : g.length ≤ 1100000) (x : Int) (w : World) (hI : IntsAt w a g) :
    Calls Try.prog 16 #[.agg m.cells.toArray, .slice a g.length c, .int .i64 x] w (RetR3 (retF m g x) w) := by
  have hm := MAt.boxed w m 29
  have hb0 := boxedBelow w m.cells.toArray 29
  have HI := Lib.hid hI
  have hsz : (w.alloc (.cells m.cells.toArray 29)).heap.size = w.heap.size + 1 := by simp
  have hS := slII_one (c := c) hI hb0 26
  rw [hsz] at hS
  have HG := Lib.hid (l02Code_any m hwf _ [g] (by simp) (fun i => by
    cases i with
    | zero => simpa using hl
    | succ i => simp) _ hS)
  have hb1 : Below w.heap.size w ((w.alloc (.cells m.cells.toArray 29)).alloc (.cells #[.slice a g.length c] 26)) := hb0.alloc (by omega) _
  have HB1 := Lib.hid hb1
  have HM1 := Lib.hid (hm.keep ((Below.refl _ _).alloc (Nat.le_refl (w.alloc (.cells m.cells.toArray 29)).heap.size) (.cells #[.slice a g.length c] 26)) hwf)
  clear hI hS hb0 hb1 hsz
  go_enter Try.func16, Try.ntmps16
  go_wp2_with ((with_reducible refine ld_mach ?_ (.tmp 3) ?_ (w.heap.size) (0) ?_ m hm hwf ?_); exact rfl; exact rfl; exact rfl)
  refine HG.out.mono ?_
  rintro e w2 ⟨rfl, hb2⟩
  clear HG hm
  have hs1 := HB1.out.size
  have hbb := HB1.out.trans (hb2.mono hs1)
  have hm2 := HM1.out.keep hb2 hwf
  clear hs1 HB1 HM1 hb2
  cases hg : gwsB m [g] with
  | false =>
    have HD := Lib.hid (retF_bad (x := x) hg)
    rw [codeG_bad hg]
    clear hg hm2
    go_wp2_with fail
    go_ret3
    exact RetR3.nil HD.out hbb
  | true =>
    rw [codeG_ok hg]
    obtain ⟨hok, hgw, h40⟩ := gwsB_row hg (show 0 < [g].length by simp)
    simp only [List.getElem?_cons_zero, Option.getD_some] at hgw h40
    have cl := hm2.l
    rw [hok.L_eq] at cl
    have h3 := hok.l_le
    have h2 := hok.l_ge
    have HGW := Lib.hid hgw
    have HL := Lib.hid hok.L_eq
    have HGB := Lib.hid hg
    clear hgw hg
    cases hx : inR x 0 ((m.l : Int) - 1) with
    | false =>
      have HD : Hid (retF m g x = ([], 0, 2)) := retF_out HGB.out (by rw [HL.out]; exact hx)
      clear hm2
      go_wp2_with (go_at_call 54; refine (l01In_any _ _ _ _).mono ?_; rintro e w' ⟨rfl, rfl⟩)
      go_ret3
      exact RetR3.nil HD.out hbb
    | true =>
      have HD : Hid (retF m g x = retI m g x.toNat) := retF_in HGB.out (by rw [HL.out]; exact hx)
      obtain ⟨y, rfl⟩ : ∃ y : Nat, x = (y : Int) := ⟨x.toNat, by simp only [inR, Bool.and_eq_true, decide_eq_true_eq] at hx; omega⟩
      have hy : y < m.l := by simp only [inR, Bool.and_eq_true, decide_eq_true_eq] at hx; omega
      rw [Int.toNat_natCast] at HD
      have e8 := IntWalk.u8_in (y : Int) ⟨by omega, by omega⟩
      have HOF := Lib.hid (l06Of_any m hwf hok w2)
      go_wp2_with (first | (go_at_call 54; refine (l01In_any _ _ _ _).mono ?_; rintro e w' ⟨rfl, rfl⟩) | ((with_reducible refine ld_mach ?_ (.tmp 3) ?_ (w.heap.size) (0) ?_ m hm2 hwf ?_); exact rfl; exact rfl; exact rfl) | (go_at_call 56; refine HOF.out.mono ?_; rintro e w3 ⟨rfl, hb3⟩))
      have hbb3 := hbb.trans (hb3.mono hbb.size)
      have HRE := Lib.hid (l06Return_any m hwf hok a g c HGW.out h40 y hy w3 (HI.out.keep hbb3))
      clear HOF hm2
      go_wp2_with fail
      refine HRE.out.mono ?_
      intro e w4 hR
      clear HRE
      cases hr : retR m g y with
      | none =>
        rw [hr] at hR
        obtain ⟨rfl, hb4⟩ := hR
        have hbb4 := hbb3.trans (hb4.mono hbb3.size)
        have HRI : Hid (retI m g y = ([], 0, 3)) := by show _ = _; rw [retI, hr]
        clear hr
        go_wp2_with fail
        go_ret3
        exact RetR3.nil (HD.out.trans HRI.out) hbb4
      | some p =>
        obtain ⟨s, k⟩ := p
        rw [hr] at hR
        obtain ⟨v, rfl, hb4, hO⟩ := hR
        have hbb4 := hbb3.trans (hb4.mono hbb3.size)
        have HRI : Hid (retI m g y = (s, (k : Int), 0)) := by show _ = _; rw [retI, hr]
        have HO := Lib.hid (hO.less hbb3.size)
        clear hr hO
        go_wp2_with fail
        go_ret3
        rw [HD.out, HRI.out]
        exact ⟨_, rfl, hbb4, HO.out⟩
end Go.Proofs.Yteagecoiijhflaa

/- What the walks of the search for an order share. -/
namespace Go.Proofs.Yteagecoiijhflaa
open Go.RowKit
set_option linter.unusedVariables false
set_option linter.unusedSimpArgs false

theorem ownRow_keep {w w' : World} {B n sz : Nat} {E : TypeId} {v : Value} {xs : List Value} (h : w.ownsRow B E sz v n xs) (hb : Below w.heap.size w w') : w'.ownsRow B E sz v n xs := by
  have hg : w.grownBy w' none := ⟨hb.os, hb.tape, hb.output, hb.size, fun k hk _ => hb.block k hk⟩
  exact World.ownsRow.kept h hg (by by_cases e : v.ownBlock = none <;> simp [e])
theorem blk_own {w : World} {B b : Nat} {cs : List Value} {T : TypeId} (hB : B ≤ b) (h : Blk w b cs T) (n : Nat) (hn : n = cs.length) (hm : n ≤ 2000000) : w.ownsRow B T 1 (.slice (some ⟨b, 0, none⟩) n n) n cs := by
  subst hn
  refine ⟨by simp, .inr ⟨b, cs.length, cs.toArray, rfl, hB, h, ?_⟩⟩
  simp [maxLen]; omega
theorem results_mid {P : Program} {fn : Func} {p q r : Tmp} {ty : TypeId} (h : fn.results = #[.tmp r, .cell p ty, .tmp q]) (tmps : Array Value) (w : World) (g : Nat) (t : TypeId) (cs : Array Value) (fr : Nat × Nat) (d : TypeDesc)
    (hp : tmps.getD p undef = .pointer (some ⟨g, 0, none⟩)) (hg : w.heap[g]? = some (.cells cs t fr))
    (hu : P.underlying ty = some d) (hd : (match d with | .struct _ | .array _ _ => true | _ => false) = true) (hi : (P.info? ty).map (·.size) = some cs.size) :
    (results fn tmps).run P w = .ok (.tuple #[tmps.getD r undef, .agg cs, tmps.getD q undef]) w := by
  have hp' : tmps[p]?.getD undef = .pointer (some ⟨g, 0, none⟩) := by simpa using hp
  simp [results, h, hp', asAddr, run_loadVar_row w g t ty cs fr d hg hu hd hi]

section
variable {B : Nat} {w0 w : World} {L : List (Nat × List Value × TypeId)} {G : List (Value × TypeId × List Value)}
/-- as Mm.appendRow, at a step of a region in drawn order -/
theorem Mm.stepRow {P : Program} {ops : Array Oper} {o : Oper} {a : Act} {K : Act → World → Prop} {Q : Exit → Act → World → Prop} {F : Prop} (hgd : o.guard = none) (s x : Operand) (t : TypeId)
    (ho : o.op = .call { callee := .builtin .append, args := #[s, x], argTypes := #[t, t] })
    (h : Mm B w0 w L G) (i : Nat) {v : Value} {E : TypeId} {xs : List Value} (hi : G[i]? = some (v, E, xs)) {i0 : TypeInfo} {z : Value} {bytes : Nat} (ht : P.underlying t = some (.slice E)) (hI : P.info? E = some i0) (hz : i0.zero = some z)
    (hsize : i0.size = 1) (hby : i0.bytes = bytes) (hzs : z.cells.size = 1) (hs : a.eval s = v) {u : Value} (hx : a.eval x = u) {B2 n : Nat} {news : List Value} (hn : n = news.length) (hu : w.ownsRow B2 E 1 u n news) (h1 : ∀ y ∈ news, y.oneCell' = true)
    (hlen : xs.length ≤ 1000000) (hlen2 : news.length ≤ 1000000) (hbytes : bytes ≤ 1000)
    (hk : ∀ v' w', Mm B w0 w' L (G.set i (v', E, xs ++ news)) → K (a.put o.dst v') w') :
    if Region.wanted o (yielded ops a.tmps) = true then Oper.wp P o a w K Q else F := by
  have hw : Region.wanted o (yielded ops a.tmps) = true := by simp [Region.wanted, hgd]
  rw [if_pos hw]
  subst hn
  have hov := h.own _ (mem_of_get hi)
  simp only at hov
  rcases id hu.2 with ⟨rfl, h0⟩ | ⟨g, cap, cur, rfl, -⟩
  · have hnil : news = [] := List.eq_nil_of_length_eq_zero (by omega)
    subst hnil
    have hrun := run_append_owned_none (P := P) (w := w) B t o.type E i0 1 ht hI v xs.length xs hov
    unfold Oper.wp
    simp [execOp, ho, resolve, invoke, builtin, hs, hx, hrun, Result.andThen]
    refine hk v w ?_
    rw [List.append_nil]
    have : G.set i (v, E, xs) = G := by
      apply List.ext_getElem?
      intro j
      rw [List.getElem?_set]
      split
      · rename_i e; subst e
        split
        · rw [hi]
        · rename_i hc; rw [List.getElem?_eq_none (by omega)]
      · rfl
    rw [this]; exact h
  · obtain ⟨v', w', hr, a1, a2, _, a4⟩ := run_append_own_at (P := P) w B t o.type E i0 z 1 bytes ht hI hz hsize hby hzs (by decide) v xs.length xs hov ⟨g, 0, none⟩ news.length cap news (by omega) (fun j y hj => World.ownsRow.cells hu (g := g) rfl j y hj) h1 (by unfold maxLen; omega)
      (by calc (xs.length + news.length) * bytes ≤ 2000000 * 1000 := Nat.mul_le_mul (by omega) hbytes
           _ ≤ _ := by omega) h.size
    unfold Oper.wp execOp
    simp only [ho, resolve, invoke, builtin, Sem.run_bind, Sem.run_pure, Result.andThen_ok, List.map_toArray, List.map_cons, List.map_nil, hs, hx, hr]
    exact hk v' w' (h.grow2 i hi rfl a1 a2 a4)
end

/-- one block more, if so -/
def ext (f : Bool) (x : Nat × List Value × TypeId) (L : List (Nat × List Value × TypeId)) : List (Nat × List Value × TypeId) := if f = true then x :: L else L
theorem ext_swap (f : Bool) (x y : Nat × List Value × TypeId) (R : List (Nat × List Value × TypeId)) : (y :: ext f x R).Perm (ext f x (y :: R)) := by
  cases f
  · exact .refl _
  · exact .swap ..
theorem ext_cong (f : Bool) (x : Nat × List Value × TypeId) {R R' : List (Nat × List Value × TypeId)} (h : R.Perm R') : (ext f x R).Perm (ext f x R') := by
  cases f
  · exact h
  · exact h.cons _
theorem ext_off (x : Nat × List Value × TypeId) (L : List (Nat × List Value × TypeId)) : ext false x L = L := rfl
theorem ext_on (x : Nat × List Value × TypeId) (L : List (Nat × List Value × TypeId)) : ext true x L = x :: L := rfl
theorem ext_mem {f : Bool} {x y : Nat × List Value × TypeId} {L : List (Nat × List Value × TypeId)} (h : y ∈ L) : y ∈ ext f x L := by
  cases f
  · exact h
  · exact List.mem_cons_of_mem _ h
theorem AnyS.invA {P : Program} {ops : Array Oper} {Q : Exit → Act → World → Prop} {md : Region.Mode} {S : World → Prop} {L : List Nat} (a0 : Act) (Inv : Act → Array Bool → Act → World → Prop) (hS : ∀ l a w, Inv a0 l a w → S w)
    (h : ∀ l a w, Inv a0 l a w → (∀ n, leftN ops.size l ≤ n → AnyS P md ops Q S L n l a w) ∨
      (Region.ready md ops l ≠ [] ∧ ∀ i ∈ Region.ready md ops l, wpOp P ops Q i (fun a' w' => Inv a0 (l.setIfInBounds i true) a' w') a w))
    (n : Nat) (l : Array Bool) (w : World) (hi : Inv a0 l a0 w) (hn : leftN ops.size l ≤ n) : AnyS P md ops Q S L n l a0 w := AnyS.inv (Inv a0) hS h n l a0 w hi hn

theorem Mm.intsAt {B : Nat} {w0 w : World} {L : List (Nat × List Value × TypeId)} {G : List (Value × TypeId × List Value)} (h : Mm B w0 w L G) (i : Nat) {a : Option Addr} {n c : Nat} {xs : List Int} (hi : G[i]? = some (.slice a n c, 2, i64s xs)) : IntsAt w a xs := by
  have ho := h.own _ (mem_of_get hi)
  simp only at ho
  obtain ⟨a', c', e, hI⟩ := (OwnI.of_row ho).form
  have : a = a' := by injection e
  rw [this]; exact hI
/-- a slice of words, each somewhere -/
def WsAt (w : World) (u : Value) (Q : List Wd) : Prop := ∃ B2 rv, rv.length = Q.length ∧ w.ownsRow B2 26 1 u Q.length rv ∧ (∀ y ∈ rv, y.oneCell' = true) ∧
  ∀ i, i < Q.length → ∃ a c, rv[i]? = some (.slice a (Q[i]?.getD []).length c) ∧ IntsAt w a (Q[i]?.getD [])
theorem WsAt.keep {w w' : World} {u : Value} {Q : List Wd} (h : WsAt w u Q) (hb : Below w.heap.size w w') : WsAt w' u Q := by
  obtain ⟨B2, rv, hl, ho, h1, h⟩ := h
  exact ⟨B2, rv, hl, ownRow_keep ho hb, h1, fun i hi => by obtain ⟨a, c, e, hI⟩ := h i hi; exact ⟨a, c, e, hI.keep hb⟩⟩
theorem WsAt.sl {w : World} {u : Value} {Q : List Wd} (h : WsAt w u Q) : SlII w u Q := by
  obtain ⟨B2, rv, hl, ho, -, h⟩ := h
  rcases id ho.2 with ⟨rfl, h0⟩ | ⟨g, cap, cur, rfl, -⟩
  · exact ⟨none, 0, by rw [h0], fun i hi => by omega⟩
  · refine ⟨some ⟨g, 0, none⟩, cap, rfl, fun i hi => ⟨g, 0, rfl, ?_⟩⟩
    obtain ⟨a, c, e, hI⟩ := h i hi
    refine ⟨a, c, ?_, hI⟩
    have := World.ownsRow.cells ho (g := g) rfl i _ e
    rwa [show (⟨g, 0, none⟩ : Addr).add i = ⟨g, 0 + i, none⟩ by unfold Addr.add; split <;> simp_all] at this
def ltB (ls : List Nat) : List Value := ls.map fun (x : Nat) => .int .u8 (x : Int)
theorem ltB_len (ls : List Nat) : (ltB ls).length = ls.length := by simp [ltB]
theorem ltB_one (ls : List Nat) : ∀ y ∈ ltB ls, y.oneCell' = true := fun y hy => by
  obtain ⟨x, -, rfl⟩ := List.mem_map.1 hy; rfl
theorem ltB_get {ls : List Nat} {i : Nat} (h : i < ls.length) : (ltB ls)[i]? = some (.int .u8 ((ls[i]?.getD 0 : Nat) : Int)) := by
  simp [ltB, List.getElem?_map, List.getElem?_eq_getElem h]
/-- the path of a search in the memory -/
structure PthAt (w : World) (u v c : Value) (P : Pth) (g : Wd) : Prop where
  ws : WsAt w u (P.map (·.1) ++ [g])
  ls : ∃ B2, w.ownsRow B2 5 1 v P.length (ltB (P.map (·.2.1)))
  cs : ∃ B2, OwnI w B2 c (P.map fun p => (p.2.2 : Int))
theorem PthAt.keep {w w' : World} {u v c : Value} {P : Pth} {g : Wd} (h : PthAt w u v c P g) (hb : Below w.heap.size w w') : PthAt w' u v c P g := by
  obtain ⟨h1, ⟨B2, h2⟩, ⟨B3, h3⟩⟩ := h
  exact ⟨h1.keep hb, ⟨B2, ownRow_keep h2 hb⟩, ⟨B3, h3.below hb⟩⟩

/-- a proof's cells -/
def prC (s : ByteArray) (f : Nat) : List Value := [.string s, .int .i64 (f : Int)]
/-- what a search gives -/
def RetO (r : Ores) (w : World) (e : Ending) (w' : World) : Prop := Below w.heap.size w w' ∧ match r with
  | .ok n => e = .returned (.tuple #[.int .i64 (n : Int), .agg (prC ⟨#[]⟩ 0).toArray, .int .i64 0])
  | .inf ls f => e = .returned (.tuple #[.int .i64 0, .agg (prC (txt ls) f).toArray, .int .i64 0])
  | .lim => e = .returned (.tuple #[.int .i64 0, .agg (prC ⟨#[]⟩ 0).toArray, .int .i64 3])

/-- the letters that are done -/
def dnB (s : List Nat) : List Value := (List.range 3).map fun j => .bool (decide (j ∈ s))
theorem dnB_nil : dnB [] = [.bool false, .bool false, .bool false] := rfl
theorem dnB_get (s : List Nat) {j : Nat} (h : j < 3) : (dnB s)[j]? = some (.bool (decide (j ∈ s))) := by
  simp [dnB, List.getElem?_map, List.getElem?_range h]
theorem dnB_set (s : List Nat) {y : Nat} (h : y < 3) : (dnB s).set y (.bool true) = dnB (s ++ [y]) := by
  rcases (by omega : y = 0 ∨ y = 1 ∨ y = 2) with rfl | rfl | rfl <;> simp [dnB, List.range_succ]

theorem ordL_stop {m : Mch} {c : Nat → Ores} {g : Wd} {e : Ores} {i : Nat} (h : ordL m c g i = .stop e) : ∀ j, i ≤ j → ordL m c g j = .stop e
  | 0, hj => by obtain rfl : i = 0 := by omega
                exact h
  | j + 1, hj => by
    by_cases c : i = j + 1
    · subst c; exact h
    · have := ordL_stop h j (by omega)
      rw [ordL, this]
theorem ordL_fin {m : Mch} {c : Nat → Ores} {g : Wd} {e : Ores} {i : Nat} (hi : i < m.l) (h : ordL m c g (i + 1) = .stop e) : (ordL m c g m.l).fin = e := by
  rw [ordL_stop h m.l (by omega)]; rfl
theorem ordL_seen {m : Mch} {c : Nat → Ores} {g : Wd} {n i : Nat} {s : List Nat} (h : ordL m c g i = .go n s) (hs : i ∈ s) : ordL m c g (i + 1) = .go n s := by
  rw [ordL, h]; simp only; rw [if_pos hs]
theorem ordL_ores {m : Mch} {c : Nat → Ores} {g : Wd} {n i : Nat} {s : List Nat} (h : ordL m c g i = .go n s) (hs : i ∉ s) {e : Ores} (hc : c i = e) (he : ∀ k, e ≠ .ok k) : ordL m c g (i + 1) = .stop e := by
  rw [ordL, h]; simp only; rw [if_neg hs, hc]
  cases e with
  | ok k => exact absurd rfl (he k)
  | inf ls f => rfl
  | lim => rfl
theorem ordL_big {m : Mch} {c : Nat → Ores} {g : Wd} {n i k : Nat} {s : List Nat} (h : ordL m c g i = .go n s) (hs : i ∉ s) (hc : c i = .ok k) (hb : 1000000000000 / k < n / Nat.gcd n k) : ordL m c g (i + 1) = .stop .lim := by
  rw [ordL, h]; simp only; rw [if_neg hs, hc]; simp only; rw [if_pos hb]
theorem ordL_go {m : Mch} {c : Nat → Ores} {g : Wd} {n i k : Nat} {s : List Nat} (h : ordL m c g i = .go n s) (hs : i ∉ s) (hc : c i = .ok k) (hb : ¬ 1000000000000 / k < n / Nat.gcd n k) : ordL m c g (i + 1) = .go (n / Nat.gcd n k * k) (s ++ cycL m g i (cycN m g i)) := by
  rw [ordL, h]; simp only; rw [if_neg hs, hc]; simp only; rw [if_neg hb]
theorem ordS_nil (m : Mch) (n : Nat) (P : Pth) : ordS m n P [] = .ok 1 := by cases n <;> simp [ordS]
/-- the search that is left to a word, if so many words may come -/
def subS (m : Mch) : Nat → Option (Pth → Wd → Ores)
  | 0 => none
  | n + 1 => some (ordS m n)
theorem ordS_eq (m : Mch) (n : Nat) (P : Pth) {g : Wd} (h : g ≠ []) : ordS m n P g = (ordL m (ordC m (subS m n) P g) g m.l).fin := by
  cases n <;> simp [ordS, subS, h]
theorem ordC_hit {m : Mch} {sub : Option (Pth → Wd → Ores)} {P : Pth} {g r : Wd} {x k : Nat} (hr : retR m g x = some (r, k)) (hm : r ∈ (P ++ [(g, x, k)]).map (·.1)) :
    ordC m sub P g x = if 1 < pthF ((P ++ [(g, x, k)]).drop (((P ++ [(g, x, k)]).map (·.1)).idxOf r)) then .inf (((P ++ [(g, x, k)]).drop (((P ++ [(g, x, k)]).map (·.1)).idxOf r)).map (·.2.1)) (pthF ((P ++ [(g, x, k)]).drop (((P ++ [(g, x, k)]).map (·.1)).idxOf r))) else .ok k := by
  unfold ordC; rw [hr]; simp only; rw [if_pos hm]
theorem ordC_miss {m : Mch} {sub : Option (Pth → Wd → Ores)} {P : Pth} {g r : Wd} {x k : Nat} (hr : retR m g x = some (r, k)) (hm : r ∉ (P ++ [(g, x, k)]).map (·.1)) :
    ordC m sub P g x = match sub with
      | none => .lim
      | some s => match s (P ++ [(g, x, k)]) r with
        | .ok n => if 1000000000000 < k * n then .lim else .ok (k * n)
        | e => e := by
  unfold ordC; rw [hr]; simp only; rw [if_neg hm]; rfl
theorem pthF_snoc (P : Pth) (p : Wd × Nat × Nat) : pthF (P ++ [p]) = pthF P * p.2.2 := by simp [pthF]
/-- the part of a path from one place to another -/
def seg (D : Pth) (t j : Nat) : Pth := (D.take j).drop t
theorem seg_start (D : Pth) (t : Nat) : seg D t t = [] := by simp [seg]
theorem seg_all (D : Pth) (t : Nat) : seg D t D.length = D.drop t := by simp [seg]
theorem seg_succ (D : Pth) {t j : Nat} (ht : t ≤ j) (hj : j < D.length) : seg D t (j + 1) = seg D t j ++ [D[j]] := by
  simp only [seg, List.take_succ_eq_append_getElem hj]
  rw [List.drop_append_of_le_length (by simp; omega)]
theorem seg_len (D : Pth) (t j : Nat) : (seg D t j).length ≤ D.length := by simp [seg]; omega
theorem seg_ok {D : Pth} (h : POk D) (t j : Nat) : POk (seg D t j) := fun p hp => h p (List.mem_of_mem_take (List.mem_of_mem_drop hp))
theorem pthF_seg {D : Pth} (h : POk D) (hl : D.length ≤ 12) (t j : Nat) : 1 ≤ pthF (seg D t j) ∧ pthF (seg D t j) ≤ 531441 := by
  have h1 := pthF_bound (seg_ok h t j)
  refine ⟨h1.1, Nat.le_trans h1.2 (Nat.le_trans (Nat.pow_le_pow_right (by omega) (Nat.le_trans (seg_len D t j) hl)) (by decide))⟩
theorem retR_good {m : Mch} (hok : m.Ok) (hwf : m.Wf) {g : Wd} (hg : GW m g) {x : Nat} (hx : x < m.l) {r : Wd} {k : Nat} (h : retR m g x = some (r, k)) : GW m r ∧ r.length ≤ 40 ∧ 1 ≤ k ∧ k ≤ 3 := by
  refine ⟨?_, ?_, retR_count h⟩ <;> simp only [retR] at h <;> split at h <;> try cases h
  · exact nrm_gw (ledS_gw hok hwf (repW_gw hg _) hx)
  · rename_i hc
    have := nrm_len m (ledS m (repW g (cycN m g x)) x)
    rw [ledS_len, repW_len] at this
    omega

theorem set_self (a : Array Value) (i : Nat) : a.setIfInBounds i (a.getD i undef) = a := by
  apply Array.ext_getElem?
  intro j
  rw [Array.getElem?_setIfInBounds]
  split
  · rename_i e; subst e
    split
    · rename_i h; simp [Array.getD, h]
    · rename_i h; rw [Array.getElem?_eq_none (by omega)]
  · rfl
theorem act8 (A : Act) (i1 i2 i3 i4 i5 i6 i7 i8 : Nat) : A = { tmps := (((((((A.tmps.setIfInBounds i1 (A.tmps.getD i1 undef)).setIfInBounds i2 (A.tmps.getD i2 undef)).setIfInBounds i3 (A.tmps.getD i3 undef)).setIfInBounds i4 (A.tmps.getD i4 undef)).setIfInBounds i5 (A.tmps.getD i5 undef)).setIfInBounds i6 (A.tmps.getD i6 undef)).setIfInBounds i7 (A.tmps.getD i7 undef)).setIfInBounds i8 (A.tmps.getD i8 undef), defers := A.defers } := by
  simp only [set_self]
/-- the slices of the region that makes the next path -/
def g17 (f0 s3 s6 s9 s12 : Bool) (x75 x78 x81 x84 x87 : Value) (ls : List Nat) (x : Nat) (cn : List Int) (k : Int) : List (Value × TypeId × List Value) :=
  (if s12 = true then [(x87, 2, i64s (cn ++ [k]))] else if s9 = true then [(x84, 2, i64s cn)] else []) ++
  (if s6 = true then [(x81, 5, ltB (ls ++ [x]))] else if s3 = true then [(x78, 5, ltB ls)] else if f0 = true then [(x75, 5, [])] else [])
theorem g17_start (x75 x78 x81 x84 x87 : Value) (ls : List Nat) (x : Nat) (cn : List Int) (k : Int) : g17 false false false false false x75 x78 x81 x84 x87 ls x cn k = [] := rfl
/-- which of its operations are done -/
def st17 (f0 s3 s6 s9 s12 s13 f5 f11 : Bool) : Bool := (!s3 || f0) && (!s6 || (s3 && f5)) && (!s9 || s6) && (!s12 || (s9 && f11)) && (!s13 || s12)
def pr17 (f0 s3 s6 s9 s12 s13 f5 f11 f14 : Bool) (i : Nat) : Bool :=
  (i == 0 && !f0) || (i == 3 && f0 && !s3) || (i == 5 && !f5) || (i == 6 && s3 && f5 && !s6) || (i == 9 && s6 && !s9) || (i == 11 && !f11) || (i == 12 && s9 && f11 && !s12) || (i == 13 && s12 && !s13) || (i == 14 && !f14)
theorem act9 (A : Act) (i1 i2 i3 i4 i5 i6 i7 i8 i9 : Nat) : A = { tmps := ((((((((A.tmps.setIfInBounds i1 (A.tmps.getD i1 undef)).setIfInBounds i2 (A.tmps.getD i2 undef)).setIfInBounds i3 (A.tmps.getD i3 undef)).setIfInBounds i4 (A.tmps.getD i4 undef)).setIfInBounds i5 (A.tmps.getD i5 undef)).setIfInBounds i6 (A.tmps.getD i6 undef)).setIfInBounds i7 (A.tmps.getD i7 undef)).setIfInBounds i8 (A.tmps.getD i8 undef)).setIfInBounds i9 (A.tmps.getD i9 undef), defers := A.defers } := by
  simp only [set_self]
end Go.Proofs.Yteagecoiijhflaa
