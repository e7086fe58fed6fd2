import Derived.Test.YthgkkaifdlkciaaYTile01
import Derived.Test.YthgkkaifdlkciaaYTile02
import Derived.StillTailTactics
import Derived.IntWalk
import Derived.Deep.RegionWith
/- The laws' copies and comparisons of machines. -/
namespace Go.Proofs.Ythgkkaifdlkciaa
open Go.RowKit
set_option linter.unusedVariables false
set_option linter.unusedSimpArgs false

set_option maxHeartbeats 1000000 in
theorem toByteA3_any (x y z : Int) (w : World) :
    Calls Try.prog 46 #[.agg #[.int .u8 x, .int .u8 y, .int .u8 z]] w (Ret (.agg #[.int .u8 x, .int .u8 y, .int .u8 z]) w) := by
  go_enter Try.func46, Try.ntmps46
  go_wp2
  refine wp_loop_rounds 4 ?_
  rw [rounds_succ]
  go_wp2
  rw [rounds_succ]
  go_wp2
  rw [rounds_succ]
  go_wp2
  rw [rounds_succ]
  go_wp2
  exact bodyPost_ret (v := .agg #[.int .u8 x, .int .u8 y, .int .u8 z]) (by simp [results, Try.results46, go_sem]) rfl ⟨rfl, (((Below.refl _ _).alloc (Nat.le_refl _) _).alloc (by simp) _).alloc (by simp; omega) _⟩

def pad (xs : List Int) (k : Nat) : List Int := xs.take (k * 3) ++ List.replicate (48 - k * 3) 0
theorem pad_length {xs : List Int} {k : Nat} (h : xs.length = 48) (hk : k ≤ 16) : (pad xs k).length = 48 := by simp [pad, h]; omega
theorem pad_step {xs : List Int} {k : Nat} (h : xs.length = 48) (hk : k < 16) :
    (((u8s (pad xs k)).set (k * 3) (.int .u8 (xs[k * 3]?.getD 0))).set (k * 3 + 1) (.int .u8 (xs[k * 3 + 1]?.getD 0))).set (k * 3 + 2) (.int .u8 (xs[k * 3 + 2]?.getD 0)) = u8s (pad xs (k + 1)) := by
  apply List.ext_getElem?
  intro i
  have hl : (u8s (pad xs k)).length = 48 := by simp [u8s, pad_length h (by omega : k ≤ 16)]
  have hl' : (u8s (pad xs (k + 1))).length = 48 := by simp [u8s, pad_length h (by omega : k + 1 ≤ 16)]
  by_cases hi : i < 48
  · have e' : (u8s (pad xs (k + 1)))[i]? = some (.int .u8 (if i < (k + 1) * 3 then xs[i]?.getD 0 else 0)) := by
      rw [u8s_get (by rw [pad_length h (by omega : k + 1 ≤ 16)]; exact hi)]
      congr 2
      simp only [pad]
      by_cases c : i < (k + 1) * 3
      · rw [if_pos c, List.getElem?_append_left (by simp; omega), List.getElem?_take, if_pos c]
      · rw [if_neg c, List.getElem?_append_right (by simp; omega), List.getElem?_replicate]
        split <;> rfl
    have e0 : (u8s (pad xs k))[i]? = some (.int .u8 (if i < k * 3 then xs[i]?.getD 0 else 0)) := by
      rw [u8s_get (by rw [pad_length h (by omega : k ≤ 16)]; exact hi)]
      congr 2
      simp only [pad]
      by_cases c : i < k * 3
      · rw [if_pos c, List.getElem?_append_left (by simp; omega), List.getElem?_take, if_pos c]
      · rw [if_neg c, List.getElem?_append_right (by simp; omega), List.getElem?_replicate]
        split <;> rfl
    rw [e']
    by_cases c2 : i = k * 3 + 2
    · subst c2; rw [List.getElem?_set_self (by simp [hl]; omega), if_pos (by omega)]
    · rw [List.getElem?_set_ne (by omega)]
      by_cases c1 : i = k * 3 + 1
      · subst c1; rw [List.getElem?_set_self (by simp [hl]; omega), if_pos (by omega)]
      · rw [List.getElem?_set_ne (by omega)]
        by_cases c0 : i = k * 3
        · subst c0; rw [List.getElem?_set_self (by simp [hl]; omega), if_pos (by omega)]
        · rw [List.getElem?_set_ne (by omega), e0]
          congr 2
          by_cases c : i < k * 3
          · rw [if_pos c, if_pos (by omega)]
          · rw [if_neg c, if_neg (by omega)]
  · rw [List.getElem?_eq_none (by simp [hl]; omega), List.getElem?_eq_none (by rw [hl']; omega)]

set_option maxHeartbeats 2000000 in
theorem toByteA3A16_any (xs : List Int) (hx : xs.length = 48) (w : World) :
    Calls Try.prog 27 #[.agg (u8s xs).toArray] w (Ret (.agg (u8s xs).toArray) w) := by
  have HX := Lib.hid hx
  clear hx
  go_enter Try.func27, Try.ntmps27
  go_wp2
  obtain ⟨n, hn⟩ : ∃ n, n = w.heap.size := ⟨_, rfl⟩
  rw [← hn]
  have HN := Lib.hid hn
  clear hn
  go_loopw [4] (fun i wr => ∃ k : Nat, k ≤ 16 ∧ i = .int .i64 k ∧ Blk wr n (u8s xs) 23 ∧ Blk wr (n + 1) (u8s (List.replicate 48 0)) 23 ∧ Blk wr (n + 1 + 1) (u8s (pad xs k)) 23 ∧ Below n w wr) (fun i _ => 16 - (intOf i).toNat)
  case atStart =>
    have e1 : (n + 1) = (w.alloc (.cells (u8s xs).toArray 23)).heap.size := by rw [HN.out]; simp
    refine ⟨0, by omega, rfl, ?_, ?_, ?_, ?_⟩
    · rw [HN.out]; exact ((Blk.new w _ _).alloc _).alloc _
    · have := (Blk.new (w.alloc (.cells (u8s xs).toArray 23)) (u8s (List.replicate 48 0)).toArray 23).alloc (.cells (u8s (List.replicate 48 0)).toArray 23)
      rw [← e1] at this
      exact this
    · have := Blk.new ((w.alloc (.cells (u8s xs).toArray 23)).alloc (.cells (u8s (List.replicate 48 0)).toArray 23)) (u8s (List.replicate 48 0)).toArray 23
      rw [show ((w.alloc (.cells (u8s xs).toArray 23)).alloc (.cells (u8s (List.replicate 48 0)).toArray 23)).heap.size = n + 1 + 1 by rw [HN.out]; simp] at this
      exact this
    · rw [HN.out]; exact (((Below.refl _ _).alloc (Nat.le_refl _) _).alloc (by simp) _).alloc (by simp; omega) _
  case round =>
    obtain ⟨k, hk, rfl, hA, hR, hB, hb⟩ := hrel
    by_cases hlt : k < 16
    · have hx := HX.out
      have a0 := hA.cell' (u8s_get (i := k * 3) (by omega))
      have a1 := hA.cell' (u8s_get (i := k * 3 + 1) (by omega))
      have a2 := hA.cell' (u8s_get (i := k * 3 + 2) (by omega))
      have hp : (pad xs k).length = 48 := pad_length hx hk
      have b0 := hB.cell' (u8s_get (i := k * 3) (by omega))
      have b1 := hB.cell' (u8s_get (i := k * 3 + 1) (by omega))
      have b2 := hB.cell' (u8s_get (i := k * 3 + 2) (by omega))
      have f0 := hB.free (k * 3)
      have f1 := hB.free (k * 3 + 1)
      have f2 := hB.free (k * 3 + 2)
      have HP := Lib.hid (pad_step hx hlt)
      clear hx hp
      obtain ⟨x0, e0⟩ : ∃ x, x = xs[k * 3]?.getD 0 := ⟨_, rfl⟩
      obtain ⟨x1, e1⟩ : ∃ x, x = xs[k * 3 + 1]?.getD 0 := ⟨_, rfl⟩
      obtain ⟨x2, e2⟩ : ∃ x, x = xs[k * 3 + 2]?.getD 0 := ⟨_, rfl⟩
      rw [← e0] at a0 HP
      rw [← e1] at a1 HP
      rw [← e2] at a2 HP
      clear e0 e1 e2
      have i1 : (k : Int) < 16 := by omega
      have i2 : (0 : Int) ≤ (k : Int) := by omega
      go_wp2_with fail
      refine (toByteA3_any _ _ _ _).mono ?_
      rintro e w1 ⟨rfl, hb1⟩
      have hA1 := hA.keep hb1
      have hR1 := hR.keep hb1
      have hB1 := hB.keep hb1
      have hbb := hb.trans (hb1.mono (Nat.le_of_lt (Nat.lt_of_lt_of_le (by omega : n < n + 1 + 1 + 1) (by have := hB.lt; omega))))
      have b0' := (hb1.cell (p := ⟨n + 1 + 1, k * 3, none⟩) hB.lt).trans b0
      have b1' := (hb1.cell (p := ⟨n + 1 + 1, k * 3 + 1, none⟩) hB.lt).trans b1
      have b2' := (hb1.cell (p := ⟨n + 1 + 1, k * 3 + 2, none⟩) hB.lt).trans b2
      have f0' := hB1.free (k * 3)
      have f1' := hB1.free (k * 3 + 1)
      have f2' := hB1.free (k * 3 + 2)
      clear a0 a1 a2 b0 b1 b2 f0 f1 f2
      go_wp2
      go_roundw
      case rel =>
        refine ⟨k + 1, by omega, by go_num, ((hA1.setOther (by simp only; omega) _).setOther (by simp only; omega) _).setOther (by simp only; omega) _, ((hR1.setOther (by simp only; omega) _).setOther (by simp only; omega) _).setOther (by simp only; omega) _, ?_, ?_⟩
        · rw [← HP.out]
          exact ((hB1.setCell _ _).setCell _ _).setCell _ _
        · exact ((hbb.setCell (by simp; omega) _).setCell (by simp; omega) _).setCell (by simp; omega) _
      case measure => simp [intOf]; omega
    · have hk' : k = 16 := by omega
      subst hk'
      have hx := HX.out
      have hp : pad xs 16 = xs := by simp [pad, hx]; exact List.take_of_length_le (by omega)
      rw [hp] at hB
      have hl : (u8s xs).length = 48 := by simp [u8s, hx]
      have hi : (Try.prog.info? 23).map (·.size) = some (u8s xs).length := by rw [hl]; kernel_rfl
      have hi' : (Try.prog.info? 23).map (·.size) = some (u8s xs).toArray.size := by rw [List.size_toArray]; exact hi
      have hra : wr.rangeAt (n + 1 + 1) 0 (u8s xs) := hB.range 0 _ (fun j v h => by simpa using h)
      have hth : wr.there (n + 1) 0 (u8s xs).toArray.size := hR.there 0 _ (by simp [u8s, hx])
      have h1 : (u8s xs).toArray.all (·.oneCell') = true := all_oneCell_toArray (fun v hv => by simp only [u8s, List.mem_map] at hv; obtain ⟨z, _, rfl⟩ := hv; rfl)
      have hne : splice (u8s (List.replicate 48 0)) 0 (u8s xs) = u8s xs := by
        apply List.ext_getElem?
        intro i
        rw [splice_get]
        by_cases hi : i < 48
        · rw [if_pos ⟨by omega, by rw [hl]; omega, by simpa [u8s] using hi⟩]; simp
        · rw [if_neg (by simp [u8s]; omega), List.getElem?_eq_none (by simp [u8s]; omega), List.getElem?_eq_none (by rw [hl]; omega)]
      have HNE := Lib.hid hne
      have HI := Lib.hid hi'
      clear hx hp hne hl hi hi'
      go_wp2_with (first | (refine wpList_load_mid rfl 23 (.tmp 3) rfl (n + 1 + 1) 0 rfl (u8s xs) (.array 16 22) hra Try.underlying23 rfl (HI.out.trans (by rw [List.size_toArray])) ?_) | (refine wpList_store_mid rfl 23 (.tmp 2) (.tmp 15) rfl (n + 1) 0 _ rfl rfl hth HI.out h1 ?_))
      have hfin := hR.setCells (u8s xs) 0
      rw [HNE.out] at hfin
      exact bodyPost_ret (v := .agg (u8s xs).toArray) (results_cell_row Try.results27 _ _ (n + 1) 23 (u8s xs).toArray (0, 0) (.array 16 22) rfl hfin Try.underlying23 rfl HI.out) rfl ⟨rfl, by rw [HN.out] at hb; exact below_setCells (by rw [HN.out]; omega) _ hb 0⟩

theorem after3 {w0 w1 : World} {A Z C : Array Value} {TA TZ TC : TypeId} (hb : Below (((w0.alloc (.cells A TA)).alloc (.cells Z TZ)).alloc (.cells C TC)).heap.size (((w0.alloc (.cells A TA)).alloc (.cells Z TZ)).alloc (.cells C TC)) w1) :
    Blk w1 w0.heap.size A.toList TA ∧ Blk w1 (w0.heap.size + 1) Z.toList TZ ∧ Blk w1 (w0.heap.size + 1 + 1) C.toList TC ∧ Below w0.heap.size w0 w1 := by
  have e1 : (w0.alloc (.cells A TA)).heap.size = w0.heap.size + 1 := by simp
  have e2 : ((w0.alloc (.cells A TA)).alloc (.cells Z TZ)).heap.size = w0.heap.size + 1 + 1 := by simp
  refine ⟨(((Blk.new w0 A TA).alloc _).alloc _).keep hb, ?_, ?_, ((((Below.refl _ _).alloc (Nat.le_refl _) _).alloc (by simp) _).alloc (by simp; omega) _).trans (hb.mono (by simp; omega))⟩
  · have := ((Blk.new (w0.alloc (.cells A TA)) Z TZ).alloc (.cells C TC)).keep hb
    rwa [e1] at this
  · have := (Blk.new ((w0.alloc (.cells A TA)).alloc (.cells Z TZ)) C TC).keep hb
    rwa [e2] at this

theorem mach_splice {m : Mch} (hw : m.Wf) (Z : Array Value) (hZ : Z.size = 98) :
    splice (splice ((Z.setIfInBounds 0 (Value.int IntKind.i64 m.L)).setIfInBounds 1 (Value.int IntKind.i64 m.S)).toList 2 (u8s m.N)) 50 (u8s m.O) = m.cells := by
  have hn := hw.nl
  have ho := hw.ol
  have hN : (u8s m.N).length = 48 := by simp [u8s, hn]
  have hO : (u8s m.O).length = 48 := by simp [u8s, ho]
  have hZl : ((Z.setIfInBounds 0 (Value.int IntKind.i64 m.L)).setIfInBounds 1 (Value.int IntKind.i64 m.S)).toList.length = 98 := by simp [hZ]
  apply List.ext_getElem?
  intro i
  rw [splice_get, splice_length, splice_get, hN, hO, hZl]
  by_cases c1 : 50 ≤ i ∧ i < 50 + 48 ∧ i < 98
  · rw [if_pos c1]
    simp only [Mch.cells]
    rw [show i = (48 + (i - 50)) + 1 + 1 by omega, List.getElem?_cons_succ, List.getElem?_cons_succ, List.getElem?_map, List.getElem?_append_right (by omega), ← List.getElem?_map, show 48 + (i - 50) - m.N.length = i - 50 by omega, show 48 + (i - 50) + 1 + 1 - 50 = i - 50 by omega]
    rfl
  · rw [if_neg c1]
    by_cases c2 : 2 ≤ i ∧ i < 2 + 48 ∧ i < 98
    · rw [if_pos c2]
      simp only [Mch.cells]
      rw [show i = (i - 2) + 1 + 1 by omega, List.getElem?_cons_succ, List.getElem?_cons_succ, List.getElem?_map, List.getElem?_append_left (by omega), ← List.getElem?_map, show i - 2 + 1 + 1 - 2 = i - 2 by omega]
      rfl
    · rw [if_neg c2]
      by_cases c3 : i < 98
      · have : i = 0 ∨ i = 1 := by omega
        rcases this with rfl | rfl
        · simp [Mch.cells, hZ, Array.getElem?_setIfInBounds]
        · simp [Mch.cells, hZ, Array.getElem?_setIfInBounds]
      · rw [List.getElem?_eq_none (by rw [hZl]; omega), List.getElem?_eq_none (by rw [Mch.cells_length hw]; omega)]

set_option maxRecDepth 100000 in
set_option maxHeartbeats 2000000 in
theorem toMachine_any (m : Mch) (hw : m.Wf) (w : World) :
    Calls Try.prog 9 #[.agg m.cells.toArray] w (Ret (.agg m.cells.toArray) w) := by
  have hl : m.cells[0]? = some (.int .i64 m.L) := rfl
  have hs : m.cells[1]? = some (.int .i64 m.S) := rfl
  have hz0 : Try.zeroCells28[0]? = some (.int .i64 0) := by kernel_rfl
  have hz1 : Try.zeroCells28[1]? = some (.int .i64 0) := by kernel_rfl
  go_enter Try.func9, Try.ntmps9
  have hN : (u8s m.N).length = 48 := by simp [u8s, hw.nl]
  have hO : (u8s m.O).length = 48 := by simp [u8s, hw.ol]
  have hiN : (Try.prog.info? 23).map (·.size) = some (u8s m.N).length := by rw [hN]; kernel_rfl
  have hiO : (Try.prog.info? 23).map (·.size) = some (u8s m.O).length := by rw [hO]; kernel_rfl
  have HIN := Lib.hid hiN
  have HIO := Lib.hid hiO
  have HLN := Lib.hid hN
  have HLO := Lib.hid hO
  clear hN hO hiN hiO
  have hr1 : ∀ A B : Obj, (((w.alloc (.cells m.cells.toArray 25)).alloc A).alloc B).rangeAt w.heap.size 2 (u8s m.N) := fun A B => by
    refine (((Blk.new w m.cells.toArray 25).alloc A).alloc B).range 2 _ (fun j v h => ?_)
    have hj : j < m.N.length := by have := (List.getElem?_eq_some_iff.1 h).1; simpa [u8s] using this
    simp only [Mch.cells]
    rw [show 2 + j = j + 1 + 1 by omega, List.getElem?_cons_succ, List.getElem?_cons_succ, List.getElem?_map, List.getElem?_append_left hj, ← List.getElem?_map]
    exact h
  go_wp2_with ((with_reducible refine wpList_load_mid ?_ 23 (.tmp 10) ?_ w.heap.size 2 ?_ (u8s m.N) (.array 16 22) (hr1 _ _) Try.underlying23 ?_ HIN.out ?_); exact rfl; exact rfl; exact rfl; exact rfl)
  refine (toByteA3A16_any m.N hw.nl _).mono ?_
  rintro e w1 ⟨rfl, hb1⟩
  obtain ⟨hM, hZ, hT, hb⟩ := after3 hb1
  clear hb1
  obtain ⟨n, hn⟩ : ∃ n, n = w.heap.size := ⟨_, rfl⟩
  rw [← hn] at hM hZ hT
  rw [← hn]
  have HN := Lib.hid hn
  have h1 : (u8s m.N).toArray.all (·.oneCell') = true := all_oneCell_toArray (fun v hv => by simp only [u8s, List.mem_map] at hv; obtain ⟨z, _, rfl⟩ := hv; rfl)
  have h2 : (u8s m.O).toArray.all (·.oneCell') = true := all_oneCell_toArray (fun v hv => by simp only [u8s, List.mem_map] at hv; obtain ⟨z, _, rfl⟩ := hv; rfl)
  have hcl : ((Try.zeroCells28.setIfInBounds 0 (Value.int IntKind.i64 m.L)).setIfInBounds 1 (Value.int IntKind.i64 m.S)).toList.length = 98 := by simp [Try.zeroCells28_size]
  have ht1 := hT.there 2 (u8s m.N).toArray.size (by rw [hcl, List.size_toArray, HLN.out]; omega)
  have hT2 := hT.setCells (u8s m.N) 2
  have hM2 := hM.setsOther (c := n + 1 + 1) (by omega) (u8s m.N) 2
  have hZ2 := hZ.setsOther (c := n + 1 + 1) (by omega) (u8s m.N) 2
  have hb' : Below n w w1 := by rw [HN.out]; exact hb
  have hb2 := below_setCells (b := n + 1 + 1) (by omega) (u8s m.N) hb' 2
  have hr2 := hM2.range 50 (u8s m.O) (fun j v h => by
    have hj : j < m.O.length := by have := (List.getElem?_eq_some_iff.1 h).1; simpa [u8s] using this
    have e := hw.nl
    simp only [Mch.cells]
    rw [show 50 + j = (48 + j) + 1 + 1 by omega, List.getElem?_cons_succ, List.getElem?_cons_succ, List.getElem?_map, List.getElem?_append_right (by omega), show 48 + j - m.N.length = j by omega, ← List.getElem?_map]
    exact h)
  have HC := Lib.hid (mach_splice hw Try.zeroCells28 Try.zeroCells28_size)
  have hI1 : Hid ((Try.prog.info? 23).map (·.size) = some (u8s m.N).toArray.size) := HIN.out.trans (by rw [List.size_toArray])
  have hI2 : Hid ((Try.prog.info? 23).map (·.size) = some (u8s m.O).toArray.size) := HIO.out.trans (by rw [List.size_toArray])
  clear hn hr1 hcl
  go_wp2_with (first | ((with_reducible refine wpList_store_mid ?_ 23 (.tmp 13) (.tmp 12) ?_ (n + 1 + 1) 2 (u8s m.N).toArray ?_ ?_ ht1 hI1.out h1 ?_); exact rfl; exact rfl; exact rfl; exact rfl) | ((with_reducible refine wpList_load_mid ?_ 23 (.tmp 14) ?_ n 50 ?_ (u8s m.O) (.array 16 22) hr2 Try.underlying23 ?_ HIO.out ?_); exact rfl; exact rfl; exact rfl; exact rfl))
  refine (toByteA3A16_any m.O hw.ol _).mono ?_
  rintro e w2 ⟨rfl, hb3⟩
  have hT3 := hT2.keep hb3
  have hZ3 := hZ2.keep hb3
  have hb4 : Below n w w2 := hb2.trans (hb3.mono (Nat.le_of_lt hM2.lt))
  have ht3 := hT3.there 50 (u8s m.O).toArray.size (by rw [splice_length, List.size_toArray, HLO.out]; simp [Try.zeroCells28_size])
  have hT4 := hT3.setCells (u8s m.O) 50
  rw [HC.out] at hT4
  have hZ4 := hZ3.setsOther (c := n + 1 + 1) (by omega) (u8s m.O) 50
  have hb5 := below_setCells (b := n + 1 + 1) (by omega) (u8s m.O) hb4 50
  have hr4 := hT4.range 0 m.cells (fun j v h => by simpa using h)
  have hi4 : Hid ((Try.prog.info? 28).map (·.size) = some m.cells.length) := by show _ = _; rw [Mch.cells_length hw]; kernel_rfl
  have hi5 : Hid ((Try.prog.info? 28).map (·.size) = some m.cells.toArray.size) := hi4.out.trans (by rw [List.size_toArray])
  have ht5 := hZ4.there 0 m.cells.toArray.size (by rw [List.size_toArray, Mch.cells_length hw]; simp [Try.zeroCells28_size])
  have h5 : m.cells.toArray.all (·.oneCell') = true := all_oneCell_toArray (fun v hv => by simp only [Mch.cells, List.mem_cons, List.mem_map] at hv; rcases hv with rfl | rfl | ⟨z, _, rfl⟩ <;> rfl)
  have hZ6 := hZ4.setCells m.cells 0
  have HZ6 := Lib.hid (show splice Try.zeroCells28.toList 0 m.cells = m.cells from splice_all (by rw [Mch.cells_length hw]; simp [Try.zeroCells28_size]))
  have hb6 := below_setCells (b := n + 1) (by omega) m.cells hb5 0
  go_wp2_with (first | ((with_reducible refine wpList_store_mid ?_ 23 (.tmp 17) (.tmp 16) ?_ (n + 1 + 1) 50 (u8s m.O).toArray ?_ ?_ ht3 hI2.out h2 ?_); exact rfl; exact rfl; exact rfl; exact rfl) | ((with_reducible refine wpList_load_mid ?_ 28 (.tmp 3) ?_ (n + 1 + 1) 0 ?_ m.cells (.struct _) hr4 Try.underlying28 ?_ hi4.out ?_); exact rfl; exact rfl; exact rfl; exact rfl) | ((with_reducible refine wpList_store_mid ?_ 28 (.tmp 2) (.tmp 18) ?_ (n + 1) 0 m.cells.toArray ?_ ?_ ht5 hi5.out h5 ?_); exact rfl; exact rfl; exact rfl; exact rfl))
  rw [HZ6.out] at hZ6
  exact bodyPost_ret (v := .agg m.cells.toArray) (results_cell_row Try.results9 _ _ (n + 1) 28 m.cells.toArray (0, 0) (.struct _) rfl hZ6 Try.underlying28 rfl hi5.out) rfl ⟨rfl, by rw [← HN.out]; exact hb6⟩
end Go.Proofs.Ythgkkaifdlkciaa

/- The inverse machine: reference and program. -/
namespace Go.Proofs.Ythgkkaifdlkciaa
open Go.RowKit
set_option linter.unusedVariables false
set_option linter.unusedSimpArgs false

end Go.Proofs.Ythgkkaifdlkciaa

/- Words of a level and their numbers: no program in sight. -/
namespace Go.Proofs.Ythgkkaifdlkciaa
open Go.RowKit
set_option linter.unusedVariables false
set_option linter.unusedSimpArgs false

/-- the n digits of k, base d -/
def digs (d : Nat) : Nat → Nat → List Nat
  | 0, _ => []
  | n + 1, k => (k / d ^ n % d) :: digs d n k
theorem digs_length (d : Nat) : ∀ n k, (digs d n k).length = n
  | 0, _ => rfl
  | n + 1, k => by simp [digs, digs_length d n k]
theorem digs_lt {d : Nat} (hd : 0 < d) : ∀ n k, ∀ x ∈ digs d n k, x < d
  | 0, _, x, h => by simp [digs] at h
  | n + 1, k, x, h => by
    simp only [digs, List.mem_cons] at h
    rcases h with rfl | h
    · exact Nat.mod_lt _ hd
    · exact digs_lt hd n k x h
theorem digs_snoc (d : Nat) : ∀ n k, digs d (n + 1) k = digs d n (k / d) ++ [k % d]
  | 0, k => by simp [digs]
  | n + 1, k => by
    rw [digs, digs_snoc d n k, digs, List.cons_append]
    congr 2
    rw [Nat.div_div_eq_div_mul, Nat.pow_succ, Nat.mul_comm]
def numL (d : Nat) (l : List Nat) : Nat := l.foldl (fun a x => a * d + x) 0
theorem numL_snoc (d : Nat) (l : List Nat) (x : Nat) : numL d (l ++ [x]) = numL d l * d + x := by simp [numL]
theorem numL_lt {d : Nat} : ∀ (l : List Nat), (∀ x ∈ l, x < d) → numL d l < d ^ l.length := by
  intro l
  induction hn : l.length generalizing l with
  | zero => intro _; have : l = [] := List.length_eq_zero_iff.1 hn; subst this; simp [numL]
  | succ n ih =>
    intro h
    obtain ⟨r, x, rfl⟩ : ∃ r x, l = r ++ [x] := ⟨l.dropLast, l.getLast (by intro e; simp [e] at hn), (List.dropLast_concat_getLast _).symm⟩
    have hr : r.length = n := by simpa using hn
    have h1 := ih r hr (fun y hy => h y (by simp [hy]))
    have h2 := h x (by simp)
    rw [numL_snoc, Nat.pow_succ]
    have : numL d r + 1 ≤ d ^ n := h1
    calc numL d r * d + x < numL d r * d + d := by omega
      _ = (numL d r + 1) * d := by rw [Nat.add_mul, Nat.one_mul]
      _ ≤ d ^ n * d := Nat.mul_le_mul_right d this

theorem txt_size (l : List Nat) : (txt l).size = l.length := by simp [txt, strOfNums_size]
theorem txt_data (l : List Nat) : (txt l).data.toList = l.map fun x => UInt8.ofNat (48 + x) := by
  simp only [txt, strOfNums_data, List.map_map]
  apply List.map_congr_left
  intro x _
  simp only [Function.comp, Int.toNat_natCast]
theorem lts_txt {l : List Nat} (h : ∀ x ∈ l, x ≤ 200) : lts (txt l) = l := by
  simp only [lts, txt_data, List.map_map]
  conv => rhs; rw [← List.map_id l]
  apply List.map_congr_left
  intro x hx
  have := h x hx
  simp only [Function.comp, id, UInt8.toNat_ofNat']
  omega
theorem letsP_txt {L : Int} {l : List Nat} (h : ∀ x ∈ l, (x : Int) < L) (hl : ∀ x ∈ l, x ≤ 200) : letsP L (txt l) = true := by
  simp only [letsP, letsUpto, List.all_eq_true, List.mem_range]
  intro k hk
  rw [getElem!_pos (txt l) k hk]
  have hk' : k < l.length := by rwa [txt_size] at hk
  have e : (txt l)[k] = UInt8.ofNat (48 + l[k]) := by
    have h1 : (txt l).data.toList[k]? = some (UInt8.ofNat (48 + l[k])) := by rw [txt_data]; simp [hk']
    have h2 : (txt l).data.toList[k]? = some (txt l)[k] := by
      rw [List.getElem?_eq_getElem (by simpa using hk)]; rfl
    exact Option.some.inj (h2.symm.trans h1)
  have hx := h l[k] (List.getElem_mem hk')
  have hx2 := hl l[k] (List.getElem_mem hk')
  rw [e, UInt8.toNat_ofNat']
  simp only [letB, Bool.and_eq_true, decide_eq_true_eq]
  omega

/-- the code of a machine and a level -/
def levC (m : Mch) (n : Int) : Int := if machP m then (if inR n 0 (7 - m.L) then 0 else 2) else 1
theorem levC_zero {m : Mch} {n : Int} (h : levC m n = 0) : m.Ok ∧ ∃ j : Nat, n = j ∧ j + m.l ≤ 7 ∧ j ≤ 5 := by
  unfold levC at h
  split at h
  · rename_i h1
    split at h
    · rename_i h2
      have hok := mach_ok h1
      simp only [inR, Bool.and_eq_true, decide_eq_true_eq] at h2
      have := hok.L_eq
      have := hok.l_ge
      exact ⟨hok, n.toNat, by omega, by omega, by omega⟩
    · omega
  · omega
theorem pow_level {d j : Nat} (h2 : 2 ≤ d) (h3 : d ≤ 3) (hj : j + d ≤ 7) : d ^ j ≤ 81 := by
  have : d = 2 ∨ d = 3 := by omega
  rcases this with rfl | rfl
  · have : j = 0 ∨ j = 1 ∨ j = 2 ∨ j = 3 ∨ j = 4 ∨ j = 5 := by omega
    rcases this with rfl | rfl | rfl | rfl | rfl | rfl <;> decide
  · have : j = 0 ∨ j = 1 ∨ j = 2 ∨ j = 3 ∨ j = 4 := by omega
    rcases this with rfl | rfl | rfl | rfl | rfl <;> decide
/-- where word k of a level leads a state, and what it becomes -/
def wsec (m : Mch) (n q k : Nat) : Nat := (runL m q (digs m.l n k)).2
def wimg (m : Mch) (n q k : Nat) : List Nat := (runL m q (digs m.l n k)).1
theorem digs_ok {m : Mch} (hok : m.Ok) (n k : Nat) : ∀ x ∈ digs m.l n k, x < m.l := digs_lt (by have := hok.l_ge; omega) n k
theorem wsec_lt {m : Mch} (hok : m.Ok) (hwf : m.Wf) {q : Nat} (hq : q < m.s) (n k : Nat) : wsec m n q k < m.s := runL_state hok hwf _ q hq (digs_ok hok n k)
theorem wimg_lt {m : Mch} (hok : m.Ok) (hwf : m.Wf) {q : Nat} (hq : q < m.s) (n k : Nat) : ∀ x ∈ wimg m n q k, x < m.l := runL_letters hok hwf _ q hq (digs_ok hok n k)
theorem wimg_length (m : Mch) (n q k : Nat) : (wimg m n q k).length = n := by rw [wimg, runL_length, digs_length]
theorem word_lets {m : Mch} (hok : m.Ok) (n k : Nat) : letsP m.L (txt (digs m.l n k)) = true := by
  have h3 := hok.l_le
  exact letsP_txt (fun x hx => by have := digs_ok hok n k x hx; have := hok.L_eq; omega) (fun x hx => by have := digs_ok hok n k x hx; omega)
theorem word_lts {m : Mch} (hok : m.Ok) (n k : Nat) : lts (txt (digs m.l n k)) = digs m.l n k := by
  have h3 := hok.l_le
  exact lts_txt (fun x hx => by have := digs_ok hok n k x hx; omega)
end Go.Proofs.Ythgkkaifdlkciaa

/- codeOf, lead. -/
namespace Go.Proofs.Ythgkkaifdlkciaa
open Go.RowKit
set_option linter.unusedVariables false
set_option linter.unusedSimpArgs false

end Go.Proofs.Ythgkkaifdlkciaa

/- lead: what a state makes of a word, and its section there. -/
namespace Go.Proofs.Ythgkkaifdlkciaa
open Go.RowKit
set_option linter.unusedVariables false
set_option linter.unusedSimpArgs false

/-- 'make([]byte, n)' -/
theorem mk_u8 (n : Nat) (hn : n ≤ 100000) (u : World) : (Instr.makeSlice 108 (.int .i64 (n : Int)) (.int .i64 (n : Int))).run Try.prog u =
    .ok (.slice (some ⟨u.heap.size, 0, none⟩) n n) (u.alloc (.cells (madeCells #[.int .u8 0] n) 5)) := by
  obtain ⟨i0, hi, hz0, hz1, hz2⟩ := info_parts Try.info5
  have h := run_make (P := Try.prog) u 108 5 i0 (.int .u8 0) Try.underlying108 hi hz0 .i64 .i64 (n : Int) (n : Int) (by omega) (Int.le_refl _) (by rw [hz2]; omega) (by omega)
  simpa [hz1, Value.cells] using h
theorem made_u8 (n : Nat) : (madeCells #[Value.int .u8 0] n).toList = u8s (List.replicate n 0) := by
  have : (madeCells #[Value.int .u8 0] n).toList = (List.range n).map fun _ => Value.int .u8 0 := by
    simp only [madeCells, Array.toList_map, Array.toList_range]
    exact List.map_congr_left fun x _ => by simp [Nat.mod_one]
  rw [this, u8s, List.map_const', List.length_range, List.map_replicate]

def outsZ (m : Mch) (q : Nat) (s : ByteArray) (k : Nat) : List Int := outsP m q s k ++ List.replicate (s.size - k) 0
theorem outsZ_step {m : Mch} {q : Nat} {s : ByteArray} {k : Nat} (hk : k < s.size) {x : Nat} (hx : (s[k]).toNat - 48 = x) :
    (u8s (outsZ m q s k)).set k (.int .u8 ((48 + m.on (secP m q s k) x : Nat) : Int)) = u8s (outsZ m q s (k + 1)) := by
  have hl : (outsP m q s k).length = k := outsP_length (by omega)
  simp only [outsZ, u8s, outsP_succ hk, hx, List.map_append]
  rw [List.set_append_right _ _ (by simp [hl]), List.append_assoc]
  congr 1
  rw [show s.size - k = (s.size - (k + 1)) + 1 by omega, List.replicate_succ]
  simp [hl]

set_option maxRecDepth 100000 in
set_option maxHeartbeats 2000000 in
theorem lead_any (b o : Nat) (m : Mch) (hwf : m.Wf) (hok : m.Ok) (q : Nat) (hq : q < m.s) (s : ByteArray) (hs : letsP m.L s = true) (h40 : s.size ≤ 40) (w : World) (hm : MAt w b o m) :
    Calls Try.prog 66 #[.pointer (some ⟨b, o, none⟩), .int .i64 q, .string s] w fun e w' => e = .returned (.tuple #[.string (txt (runL m q (lts s)).1), .int .i64 (runL m q (lts s)).2]) ∧ Below w.heap.size w w' := by
  have hbw : b < w.heap.size := World.block_lt_of_cell? w ⟨b, o, none⟩ hm.l
  have hmk := mk_u8 s.size (by omega) w
  have HS := Lib.hid hs
  have HQ := Lib.hid hq
  clear hs hq
  go_enter Try.func66, Try.ntmps66
  go_wp2
  clear hmk
  go_loopw [1, 16] (fun qv i wr => ∃ k : Nat, k ≤ s.size ∧ i = .int .i64 k ∧ qv = .int .i64 (secP m q s k) ∧ Blk wr w.heap.size (u8s (outsZ m q s k)) 5 ∧ MAt wr b o m ∧ Below w.heap.size w wr) (fun _ i _ => s.size - (intOf i).toNat)
  case atStart =>
    have h0 := Blk.new w (madeCells #[Value.int .u8 0] s.size) 5
    rw [made_u8] at h0
    exact ⟨0, Nat.zero_le _, rfl, rfl, by simpa [outsZ, outsP, runL] using h0, hm.alloc hbw _, boxedBelow _ _ _⟩
  case round =>
    obtain ⟨k, hk, rfl, rfl, hB, hmr, hbr⟩ := hrel
    by_cases hlt : k < s.size
    · obtain ⟨x, hx⟩ : ∃ x : Nat, (s[k]).toNat = 48 + x := ⟨(s[k]).toNat - 48, by have := (lets_at HS.out hlt).1; omega⟩
      have hxL : x < m.l := by have := (lets_at HS.out hlt).2; have := hok.L_eq; omega
      have hx3 : x < 3 := by have := hok.l_le; omega
      have hqs := secP_lt hok hwf HQ.out HS.out k
      have hq16 : secP m q s k < 16 := by have := hok.s_le; omega
      have hy := hok.on_lt hwf hqs hxL
      have hy3 : m.on (secP m q s k) x < 3 := by have := hok.l_le; omega
      have hn16 : m.nn (secP m q s k) x < 16 := by have := hok.nn_lt hwf hqs hxL; have := hok.s_le; omega
      have HO := Lib.hid (outsZ_step (m := m) (q := q) hlt (x := x) (by omega))
      have HT := Lib.hid (show secP m q s (k + 1) = m.nn (secP m q s k) x by rw [secP_succ hlt, hx, Nat.add_sub_cancel_left])
      have EO := Lib.hid (hok.o_eq hwf hqs hxL)
      have EN := Lib.hid (hok.n_eq hwf hqs hxL)
      have hck : ∃ u, wr.cell? ⟨w.heap.size, k, none⟩ = some (.int .u8 u) := ⟨_, hB.cell' (u8s_get (by simp [outsZ, outsP_length hk]; omega))⟩
      obtain ⟨u, hck⟩ := hck
      have hfk := hB.free k
      have hbx : ((s[k]).toNat : Int) = 48 + (x : Int) := by omega
      clear hx hxL hqs hm hy
      have i2 : (x : Int) < 3 := by omega
      have i1 : (0 : Int) ≤ (k : Int) := by omega
      have i4 : (k : Int) < s.size := by omega
      obtain ⟨p, hp⟩ : ∃ p, p = secP m q s k := ⟨_, rfl⟩
      rw [← hp] at hq16 EO EN HO HT hy3 hn16
      rw [← hp]
      have HP := Lib.hid hp
      clear hp
      go_wp2_with fail
      refine (out_any b o m hwf _ _ (by omega) (by omega) _ hmr).mono ?_
      rintro e w' ⟨rfl, rfl⟩
      rw [Int.toNat_natCast, show (48 + (x : Int) - 48).toNat = x by omega, EO.out]
      go_wp2_with (go_at_call 84; refine (letter_any _ (by omega) (by omega) _).mono ?_; rintro e w' ⟨rfl, rfl⟩)
      have hB2 := hB.setCell k (.int .u8 (48 + (m.on p x : Int)))
      have hm2 := hmr.setCell (a := ⟨w.heap.size, k, none⟩) (by simp only; omega) (.int .u8 (48 + (m.on p x : Int)))
      have hb2 := hbr.setCell (p := ⟨w.heap.size, k, none⟩) (Nat.le_refl _) (.int .u8 (48 + (m.on p x : Int)))
      refine (next_any b o m hwf _ _ (by omega) (by omega) _ hm2).mono ?_
      rintro e w' ⟨rfl, rfl⟩
      rw [Int.toNat_natCast, show (48 + (x : Int) - 48).toNat = x by omega, EN.out]
      go_wp2
      go_roundw
      case rel => exact ⟨k + 1, by omega, by go_num, by rw [HT.out], by rw [← HO.out]; exact hB2, hm2, hb2⟩
      case measure => simp [intOf]; omega
    · have hk' : k = s.size := by omega
      subst hk'
      have hz : outsZ m q s s.size = outsP m q s s.size := by simp [outsZ]
      rw [hz] at hB
      have hcv := run_convert_bytes_arg wr 108 5 Try.underlying108 Try.underlying5 w.heap.size 0 s.size s.size (outsP m q s s.size) (outsP_length (Nat.le_refl _)) (fun i hi => by
        rw [Nat.zero_add]; exact hB.cell' (u8s_get (by rw [outsP_length (Nat.le_refl _)]; exact hi))) 9 Try.underlying9
      have HT := Lib.hid (outsP_all (m := m) (q := q) (s := s))
      have HU := Lib.hid (secP_all (m := m) (q := q) (s := s))
      clear hz
      go_wp2
      go_ret2
      exact ⟨ret2_of HT.out (by rw [HU.out]), hbr⟩
end Go.Proofs.Ythgkkaifdlkciaa

/- Powers, words of a level, their numbers: contracts of both sides. -/
namespace Go.Proofs.Ythgkkaifdlkciaa
open Go.RowKit
set_option linter.unusedVariables false
set_option linter.unusedSimpArgs false

theorem pow30 {d k : Nat} (hd : d ≤ 3) (hk : k ≤ 30) : d ^ k ≤ 205891132094649 :=
  calc d ^ k ≤ 3 ^ k := Nat.pow_le_pow_left hd k
    _ ≤ 3 ^ 30 := Nat.pow_le_pow_right (by omega) hk
    _ = 205891132094649 := by decide
theorem pow_cast (d k : Nat) : ((d ^ k : Nat) : Int) * (d : Int) = ((d ^ (k + 1) : Nat) : Int) := by rw [Nat.pow_succ]; push_cast; rfl

set_option maxHeartbeats 1000000 in
theorem power_any (d n : Nat) (hd : d ≤ 3) (hn : n ≤ 29) (w : World) :
    Calls Try.prog 82 #[.int .i64 d, .int .i64 n] w fun e w' => e = .returned (.int .i64 ((d ^ n : Nat) : Int)) ∧ w = w' := by
  go_enter Try.func82, Try.ntmps82
  go_wp2
  go_loop [5, 7] (fun p i => ∃ k : Nat, k ≤ n ∧ i = .int .i64 k ∧ p = .int .i64 ((d ^ k : Nat) : Int)) (fun _ i => n - (intOf i).toNat)
  case atStart => exact ⟨0, Nat.zero_le _, rfl, rfl⟩
  case round =>
    obtain ⟨k, hk, rfl, rfl⟩ := hrel
    by_cases hlt : k < n
    · have h1 := pow30 (k := k + 1) hd (by omega)
      have h2 := pow_cast d k
      have i1 : 0 ≤ ((d ^ k : Nat) : Int) * (d : Int) := by rw [h2]; omega
      have i2 : ((d ^ k : Nat) : Int) * (d : Int) ≤ 205891132094649 := by rw [h2]; omega
      have H2 := Lib.hid h2
      clear h1 h2
      generalize ((d ^ k : Nat) : Int) = P at *
      go_wp2
      go_round
      case rel => exact ⟨k + 1, by omega, by go_num, by rw [← H2.out]⟩
      case measure => simp [intOf]; omega
    · have hk' : k = n := by omega
      subst hk'
      go_wp2
      go_ret
      exact ⟨rfl, rfl⟩

set_option maxHeartbeats 1000000 in
theorem l01Power_any (d n : Nat) (hd : d ≤ 3) (hn : n ≤ 29) (w : World) :
    Calls Try.prog 60 #[.int .i64 d, .int .i64 n] w fun e w' => e = .returned (.int .i64 ((d ^ n : Nat) : Int)) ∧ w = w' := by
  go_enter Try.func60, Try.ntmps60
  go_wp2
  go_loop [1, 5] (fun i p => ∃ k : Nat, k ≤ n ∧ i = .int .i64 ((n - k : Nat) : Int) ∧ p = .int .i64 ((d ^ k : Nat) : Int)) (fun i _ => (intOf i).toNat)
  case atStart => exact ⟨0, Nat.zero_le _, rfl, rfl⟩
  case round =>
    obtain ⟨k, hk, rfl, rfl⟩ := hrel
    by_cases hlt : k < n
    · have h1 := pow30 (k := k + 1) hd (by omega)
      have h2 := pow_cast d k
      have i1 : 0 ≤ ((d ^ k : Nat) : Int) * (d : Int) := by rw [h2]; omega
      have i2 : ((d ^ k : Nat) : Int) * (d : Int) ≤ 205891132094649 := by rw [h2]; omega
      have H2 := Lib.hid h2
      clear h1 h2
      generalize ((d ^ k : Nat) : Int) = P at *
      obtain ⟨r, hr⟩ : ∃ r, r = n - k := ⟨_, rfl⟩
      rw [← hr]
      have i3 : (0 : Int) < (r : Int) := by omega
      have i4 : (r : Int) ≤ 29 := by omega
      have HR := Lib.hid hr
      clear hr
      go_wp2
      go_round
      case rel => exact ⟨k + 1, by omega, by have := HR.out; rw [show ((n - (k + 1) : Nat) : Int) = (r : Int) - 1 by omega], by rw [← H2.out]⟩
      case measure => simp [intOf]; omega
    · have hk' : k = n := by omega
      subst hk'
      simp only [Nat.sub_self]
      go_wp2
      go_ret
      exact ⟨rfl, rfl⟩

/-! words -/
def lowZ (d n j k : Nat) : List Int := List.replicate (n - j) 0 ++ (digs d j k).map fun x : Nat => ((48 + x : Nat) : Int)
theorem lowZ_length (d n j k : Nat) (h : j ≤ n) : (lowZ d n j k).length = n := by simp [lowZ, digs_length]; omega
theorem lowZ_step (d n j k : Nat) (h : j < n) : (u8s (lowZ d n j k)).set (n - 1 - j) (.int .u8 ((48 + k / d ^ j % d : Nat) : Int)) = u8s (lowZ d n (j + 1) k) := by
  simp only [lowZ, u8s, List.map_append, digs, List.map_cons]
  rw [show n - j = (n - (j + 1)) + 1 by omega, List.replicate_succ', List.map_append, List.append_assoc]
  rw [List.set_append_right _ _ (by simp; omega)]
  congr 1
  simp only [List.length_map, List.length_replicate, List.map_cons, List.map_nil, List.cons_append, List.nil_append]
  rw [show n - 1 - j - (n - (j + 1)) = 0 by omega, List.set_cons_zero]
theorem lowZ_all (d n k : Nat) : strOfNums (lowZ d n n k) = txt (digs d n k) := by simp [lowZ, txt]

theorem divC (a b : Nat) : ((a : Int) / (b : Int)) = ((a / b : Nat) : Int) := by simp
theorem modC (a b : Nat) : ((a : Int) % (b : Int)) = ((a % b : Nat) : Int) := by simp

set_option maxRecDepth 100000 in
set_option maxHeartbeats 1000000 in
theorem wordOf_any (d n k : Nat) (h2 : 2 ≤ d) (h3 : d ≤ 3) (hn : n ≤ 40) (hk : k ≤ 1000000) (w : World) :
    Calls Try.prog 83 #[.int .i64 d, .int .i64 n, .int .i64 k] w (Ret (.string (txt (digs d n k))) w) := by
  have hmk := mk_u8 n (by omega) w
  have hM0 := (Mm.start w).alloc (madeCells #[Value.int .u8 0] n) 5
  rw [made_u8, show List.replicate n (0 : Int) = lowZ d n 0 k by simp [lowZ, digs]] at hM0
  go_enter Try.func83, Try.ntmps83
  go_wp2
  clear hmk
  go_loopw [2, 8] (fun kv i wr => ∃ j : Nat, j ≤ n ∧ i = .int .i64 ((n : Int) - 1 - (j : Int)) ∧ kv = .int .i64 ((k / d ^ j : Nat) : Int) ∧ Mm w.heap.size w wr [(w.heap.size, u8s (lowZ d n j k), 5)] []) (fun _ i _ => (intOf i + 1).toNat)
  case atStart => exact ⟨0, Nat.zero_le _, by simp, by simp, hM0⟩
  case round =>
    clear hM0
    obtain ⟨j, hj, rfl, rfl, hM⟩ := hrel
    by_cases hlt : j < n
    · have hB := hM.at 0 rfl
      obtain ⟨u, hu⟩ : ∃ u, (lowZ d n j k)[n - 1 - j]?.getD 0 = u := ⟨_, rfl⟩
      have c1 := hB.cell' (u8s_get (xs := lowZ d n j k) (i := n - 1 - j) (by rw [lowZ_length d n j k hj]; omega))
      have f1 := hB.free (n - 1 - j)
      rw [hu] at c1
      have hset := Lib.hid (hM.setCell 0 rfl (n - 1 - j) (.int .u8 ((48 + k / d ^ j % d : Nat) : Int)))
      rw [lowZ_step d n j k hlt] at hset
      have HN : Hid (k / d ^ (j + 1) = k / d ^ j / d) := by show _ = _; rw [Nat.pow_succ, Nat.div_div_eq_div_mul]
      have hkd : k / d ^ j ≤ 1000000 := Nat.le_trans (Nat.div_le_self _ _) hk
      have HMD : Hid (((k / d ^ j : Nat) : Int) % (d : Int) = ((k / d ^ j % d : Nat) : Int)) := modC _ _
      have HDV : Hid (((k / d ^ j : Nat) : Int) / (d : Int) = ((k / d ^ j / d : Nat) : Int)) := divC _ _
      have hml : k / d ^ j % d < 3 := by have := Nat.mod_lt (k / d ^ j) (by omega : d > 0); omega
      clear hM hB hu
      obtain ⟨i, hi⟩ : ∃ i : Nat, i = n - 1 - j := ⟨_, rfl⟩
      rw [← hi] at c1 f1 hset
      rw [show (n : Int) - 1 - (j : Int) = (i : Int) by omega]
      have HI := Lib.hid hi
      clear hi
      generalize k / d ^ j = K at *
      have i1 : (0 : Int) ≤ (i : Int) := by omega
      have i2 : (i : Int) < (n : Int) := by have := HI.out; omega
      have i3 : (0 : Int) < (d : Int) := by omega
      have i4 : (0 : Int) ≤ (K : Int) := by omega
      have i5 : (K : Int) ≤ 1000000 := by omega
      have i6 : (0 : Int) ≤ (K : Int) / (d : Int) := Int.ediv_nonneg i4 (by omega)
      have i7 : (K : Int) / (d : Int) ≤ 1000000 := Int.le_trans (Int.ediv_le_self _ i4) i5
      go_wp2_with fail
      rw [HMD.out]
      go_wp2_with (go_at_call 84; refine (letter_any _ (by omega) (by omega) _).mono ?_; rintro e w' ⟨rfl, rfl⟩)
      go_roundw
      case rel => exact ⟨j + 1, by omega, by have := HI.out; rw [show (n : Int) - 1 - ((j + 1 : Nat) : Int) = (i : Int) - 1 by omega], by rw [HN.out, HDV.out], hset.out⟩
      case measure => simp [intOf] <;> omega
    · have hj' : j = n := by omega
      subst hj'
      rw [show (j : Int) - 1 - (j : Int) = -1 by omega]
      have hB := hM.at 0 rfl
      have hl := lowZ_length d j j k (Nat.le_refl _)
      have hcv := run_convert_bytes_arg wr 108 5 Try.underlying108 Try.underlying5 w.heap.size 0 j j (lowZ d j j k) hl (fun i hi => by
        rw [Nat.zero_add]; exact hB.cell' (u8s_get (by rw [hl]; exact hi))) 9 Try.underlying9
      rw [lowZ_all] at hcv
      have hbl := hM.below
      clear hM hB hl
      go_wp2_with fail
      go_ret
      exact ⟨rfl, hbl⟩

theorem ret_str {a b : ByteArray} (h : a = b) : Ending.returned (.string a) = .returned (.string b) := by rw [h]
theorem txt_snoc (l : List Nat) (x : Nat) : txt (l ++ [x]) = txt l ++ strOfNums [48 + (x : Int)] := by
  have : (txt (l ++ [x])).data.toList = (txt l ++ strOfNums [48 + (x : Int)]).data.toList := by
    rw [ByteArray.data_append]
    simp only [Array.toList_append, txt_data, strOfNums_data, List.map_append, List.map_cons, List.map_nil]
    congr 2
  exact ByteArray.ext (Array.toList_inj.1 this)

set_option maxRecDepth 100000 in
set_option maxHeartbeats 1000000 in
theorem l01WordOf_any (d : Nat) (h2 : 2 ≤ d) (h3 : d ≤ 3) : ∀ (n k : Nat) (hn : n ≤ 40) (hk : k ≤ 1000000) (w : World),
    Calls Try.prog 62 #[.int .i64 d, .int .i64 n, .int .i64 k] w (Ret (.string (txt (digs d n k))) w)
  | 0, k, hn, hk, w => by
    go_enter Try.func62, Try.ntmps62
    go_wp2
    go_ret
    exact ⟨rfl, Below.refl _ _⟩
  | n + 1, k, hn, hk, w => by
    have ih := fun W => l01WordOf_any d h2 h3 n (k / d) (by omega) (Nat.le_trans (Nat.div_le_self _ _) hk) W
    have hne : (((n + 1 : Nat) : Int) == 0) = false := by simp; omega
    have i3 : (0 : Int) < (d : Int) := by omega
    have i4 : (0 : Int) ≤ (k : Int) := by omega
    have i5 : (k : Int) ≤ 1000000 := by omega
    have i8 : (n : Int) ≤ 40 := by omega
    have IH := Lib.hid ih
    clear ih
    go_enter Try.func62, Try.ntmps62
    go_wp2_with fail
    have hmx : Try.prog.follows .mixedOrders = true := by kernel_rfl
    have HMX := Lib.hid hmx
    clear hmx
    have hml : k % d < 3 := by have := Nat.mod_lt k (by omega : d > 0); omega
    have hdl : k / d ≤ 1000000 := Nat.le_trans (Nat.div_le_self _ _) hk
    have q0 : IntKind.i64.wrap (n : Int) = (n : Int) := IntWalk.i64_in _ (by omega)
    have q1 : Int.tdiv (k : Int) (d : Int) = ((k / d : Nat) : Int) := by simp [Int.tdiv]
    have q2 : Int.tmod (k : Int) (d : Int) = ((k % d : Nat) : Int) := by simp [Int.tmod]
    have HD : Hid (digs d (n + 1) k = digs d n (k / d) ++ [k % d]) := digs_snoc d n k
    generalize k / d = K at *
    generalize k % d = x at *
    have q3 : IntKind.i64.wrap (K : Int) = (K : Int) := IntWalk.i64_in _ (by omega)
    have q4 : IntKind.i64.wrap (48 + (x : Int)) = 48 + (x : Int) := IntWalk.i64_in _ (by omega)
    have q5 : IntKind.u8.wrap (48 + (x : Int)) = 48 + (x : Int) := by simp [IntKind.wrap, IntKind.bits, IntKind.signed]; omega
    have q6 : ¬ d = 0 := by omega
    have q7 : IntKind.i64.wrap (x : Int) = (x : Int) := IntWalk.i64_in _ (by omega)
    refine region_S (fun W => True) [] 16 rfl HMX.out trivial (fun hU => ?_)
    (refine AnyS.take (i := 0) rfl (by kernel_rfl) (by kernel_rfl) (by kernel_rfl) (by rfl) (fun _ _ _ h => h) (by rfl) (by intro w; go_simp; with_reducible rfl) hU (fun hU => ?_); (try simp only [Act.put, List.setIfInBounds_toArray, List.set_cons_zero, List.set_cons_succ]); refine AnyS.take (i := 1) rfl (by kernel_rfl) (by kernel_rfl) (by kernel_rfl) (by rfl) (fun _ _ _ h => h) (by rfl) (by intro w; go_simp; with_reducible rfl) hU (fun hU => ?_); (try simp only [Act.put, List.setIfInBounds_toArray, List.set_cons_zero, List.set_cons_succ]); refine AnyS.take (i := 2) rfl (by kernel_rfl) (by kernel_rfl) (by kernel_rfl) (by rfl) (fun _ _ _ h => h) (by rfl) (by intro w; go_simp; with_reducible rfl) hU (fun hU => ?_); (try simp only [Act.put, List.setIfInBounds_toArray, List.set_cons_zero, List.set_cons_succ]); refine AnyS.take (i := 3) rfl (by kernel_rfl) (by kernel_rfl) (by kernel_rfl) (by rfl) (fun _ _ _ h => h) (by rfl) (by intro w; go_simp; with_reducible rfl) hU (fun hU => ?_); (try simp only [Act.put, List.setIfInBounds_toArray, List.set_cons_zero, List.set_cons_succ]); refine AnyS.take (i := 4) rfl (by kernel_rfl) (by kernel_rfl) (by kernel_rfl) (by rfl) (fun _ _ _ h => h) (by rfl) (by intro w; go_simp; with_reducible rfl) hU (fun hU => ?_); (try simp only [Act.put, List.setIfInBounds_toArray, List.set_cons_zero, List.set_cons_succ]); refine AnyS.take (i := 5) rfl (by kernel_rfl) (by kernel_rfl) (by kernel_rfl) (by rfl) (fun _ _ _ h => h) (by rfl) (by intro w; go_simp; with_reducible rfl) hU (fun hU => ?_); (try simp only [Act.put, List.setIfInBounds_toArray, List.set_cons_zero, List.set_cons_succ]); refine AnyS.take (i := 7) rfl (by kernel_rfl) (by kernel_rfl) (by kernel_rfl) (by rfl) (fun _ _ _ h => h) (by rfl) (by intro w; go_simp; with_reducible rfl) hU (fun hU => ?_); (try simp only [Act.put, List.setIfInBounds_toArray, List.set_cons_zero, List.set_cons_succ]); refine AnyS.take (i := 8) rfl (by kernel_rfl) (by kernel_rfl) (by kernel_rfl) (by rfl) (fun _ _ _ h => h) (by rfl) (by intro w; go_simp; with_reducible rfl) hU (fun hU => ?_); (try simp only [Act.put, List.setIfInBounds_toArray, List.set_cons_zero, List.set_cons_succ]); refine AnyS.take (i := 9) rfl (by kernel_rfl) (by kernel_rfl) (by kernel_rfl) (by rfl) (fun _ _ _ h => h) (by rfl) (by intro w; go_simp; with_reducible rfl) hU (fun hU => ?_); (try simp only [Act.put, List.setIfInBounds_toArray, List.set_cons_zero, List.set_cons_succ]); refine AnyS.take (i := 10) rfl (by kernel_rfl) (by kernel_rfl) (by kernel_rfl) (by rfl) (fun _ _ _ h => h) (by rfl) (by intro w; go_simp; with_reducible rfl) hU (fun hU => ?_); (try simp only [Act.put, List.setIfInBounds_toArray, List.set_cons_zero, List.set_cons_succ]); refine AnyS.take (i := 11) rfl (by kernel_rfl) (by kernel_rfl) (by kernel_rfl) (by rfl) (fun _ _ _ h => h) (by rfl) (by intro w; go_simp; with_reducible rfl) hU (fun hU => ?_); (try simp only [Act.put, List.setIfInBounds_toArray, List.set_cons_zero, List.set_cons_succ]))
    obtain ⟨W, hW⟩ : ∃ W, W = w.drew := ⟨_, rfl⟩
    have hB : Below w.heap.size w W := by rw [hW]; exact (Below.refl _ w).drew
    rw [← hW] at hU ⊢
    clear hW q0 q1 q2 q3 q4 q5 q7
    have q8 : ¬ 9223372036854775807 < (txt (digs d n K)).size + (strOfNums [48 + (x : Int)]).size := by rw [txt_size, strOfNums_size, digs_length]; simp; omega
    refine AnyS.branch (rs := [6, 12]) (by kernel_rfl) (by simp) (AllS.cons rfl (fun K hK => ?_) (AllS.cons rfl (fun K hK => ?_) AllS.nil))
    · go_simp
      refine (IH.out _).mono ?_
      rintro e w1 ⟨rfl, hb1⟩
      refine Shut.abs hK (fun W => Below w.heap.size w W) (hB.trans (hb1.mono hB.size)) (fun _ _ => trivial) ?_
      clear hK K hB hU hb1
      rintro W hB hU
      refine AnyS.branch (rs := [12]) (by kernel_rfl) (by simp) (AllS.cons rfl (fun K hK => ?_) AllS.nil)
      go_simp
      obtain ⟨b, eb⟩ : ∃ b, b = W.heap.size := ⟨_, rfl⟩
      rw [← eb]
      refine Shut.abs hK (fun V => Below w.heap.size w V ∧ Blk V b [.int .u8 (48 + (x : Int))] 5) ⟨hB.alloc hB.size _, by rw [eb]; exact Blk.new W #[.int .u8 (48 + (x : Int))] 5⟩ (fun _ _ => trivial) ?_
      clear hK K hB hU eb
      rintro V ⟨hB, hk⟩ hU
      refine AnyS.branch (rs := [13]) (by kernel_rfl) (by simp) (AllS.cons rfl (fun K hK => ?_) AllS.nil)
      have hcv := run_convert_bytes_arg V 108 5 Try.underlying108 Try.underlying5 b 0 1 1 [48 + (x : Int)] rfl (fun i hi => by obtain rfl : i = 0 := (by simpa using hi); exact hk.cell' rfl) 9 Try.underlying9
      go_simp
      refine hK.out _ _ (.inl trivial) (fun hU => ?_)
      clear hK K hcv hk
      (refine AnyS.take (i := 14) rfl (by kernel_rfl) (by kernel_rfl) (by kernel_rfl) (by rfl) (fun _ _ _ h => h) (by rfl) (by intro w; go_simp; with_reducible rfl) hU (fun hU => ?_); (try simp only [Act.put, List.setIfInBounds_toArray, List.set_cons_zero, List.set_cons_succ]); refine AnyS.take (i := 15) rfl (by kernel_rfl) (by kernel_rfl) (by kernel_rfl) (by rfl) (fun _ _ _ h => h) (by rfl) (by intro w; go_simp; with_reducible rfl) hU (fun hU => ?_); (try simp only [Act.put, List.setIfInBounds_toArray, List.set_cons_zero, List.set_cons_succ]))
      refine AnyS.done (by kernel_rfl) ?_ _
      go_wp2_with fail
      go_ret
      exact ⟨ret_str (by rw [HD.out, txt_snoc]), hB⟩
    · go_simp
      obtain ⟨b, eb⟩ : ∃ b, b = W.heap.size := ⟨_, rfl⟩
      rw [← eb]
      refine Shut.abs hK (fun V => Below w.heap.size w V ∧ Blk V b [.int .u8 (48 + (x : Int))] 5) ⟨hB.alloc hB.size _, by rw [eb]; exact Blk.new W #[.int .u8 (48 + (x : Int))] 5⟩ (fun _ _ => trivial) ?_
      clear hK K hB hU eb
      rintro V ⟨hB, hk⟩ hU
      refine AnyS.branch (rs := [6, 13]) (by kernel_rfl) (by simp) (AllS.cons rfl (fun K hK => ?_) (AllS.cons rfl (fun K hK => ?_) AllS.nil))
      · go_simp
        refine (IH.out _).mono ?_
        rintro e w1 ⟨rfl, hb1⟩
        refine Shut.abs hK (fun V => Below w.heap.size w V ∧ Blk V b [.int .u8 (48 + (x : Int))] 5) ⟨hB.trans (hb1.mono hB.size), hk.keep hb1⟩ (fun _ _ => trivial) ?_
        clear hK K hB hU hb1 hk
        rintro V ⟨hB, hk⟩ hU
        refine AnyS.branch (rs := [13]) (by kernel_rfl) (by simp) (AllS.cons rfl (fun K hK => ?_) AllS.nil)
        have hcv := run_convert_bytes_arg V 108 5 Try.underlying108 Try.underlying5 b 0 1 1 [48 + (x : Int)] rfl (fun i hi => by obtain rfl : i = 0 := (by simpa using hi); exact hk.cell' rfl) 9 Try.underlying9
        go_simp
        refine hK.out _ _ (.inl trivial) (fun hU => ?_)
        clear hK K hcv hk
        (refine AnyS.take (i := 14) rfl (by kernel_rfl) (by kernel_rfl) (by kernel_rfl) (by rfl) (fun _ _ _ h => h) (by rfl) (by intro w; go_simp; with_reducible rfl) hU (fun hU => ?_); (try simp only [Act.put, List.setIfInBounds_toArray, List.set_cons_zero, List.set_cons_succ]); refine AnyS.take (i := 15) rfl (by kernel_rfl) (by kernel_rfl) (by kernel_rfl) (by rfl) (fun _ _ _ h => h) (by rfl) (by intro w; go_simp; with_reducible rfl) hU (fun hU => ?_); (try simp only [Act.put, List.setIfInBounds_toArray, List.set_cons_zero, List.set_cons_succ]))
        refine AnyS.done (by kernel_rfl) ?_ _
        go_wp2_with fail
        go_ret
        exact ⟨ret_str (by rw [HD.out, txt_snoc]), hB⟩
      · have hcv := run_convert_bytes_arg V 108 5 Try.underlying108 Try.underlying5 b 0 1 1 [48 + (x : Int)] rfl (fun i hi => by obtain rfl : i = 0 := (by simpa using hi); exact hk.cell' rfl) 9 Try.underlying9
        go_simp
        refine hK.out _ _ (.inl trivial) (fun hU => ?_)
        clear hK K hcv hk
        refine AnyS.branch (rs := [6]) (by kernel_rfl) (by simp) (AllS.cons rfl (fun K hK => ?_) AllS.nil)
        go_simp
        refine (IH.out _).mono ?_
        rintro e w1 ⟨rfl, hb1⟩
        refine Shut.abs hK (fun V => Below w.heap.size w V) (hB.trans (hb1.mono hB.size)) (fun _ _ => trivial) ?_
        clear hK K hB hU hb1
        rintro V hB hU
        (refine AnyS.take (i := 14) rfl (by kernel_rfl) (by kernel_rfl) (by kernel_rfl) (by rfl) (fun _ _ _ h => h) (by rfl) (by intro w; go_simp; with_reducible rfl) hU (fun hU => ?_); (try simp only [Act.put, List.setIfInBounds_toArray, List.set_cons_zero, List.set_cons_succ]); refine AnyS.take (i := 15) rfl (by kernel_rfl) (by kernel_rfl) (by kernel_rfl) (by rfl) (fun _ _ _ h => h) (by rfl) (by intro w; go_simp; with_reducible rfl) hU (fun hU => ?_); (try simp only [Act.put, List.setIfInBounds_toArray, List.set_cons_zero, List.set_cons_succ]))
        refine AnyS.done (by kernel_rfl) ?_ _
        go_wp2_with fail
        go_ret
        exact ⟨ret_str (by rw [HD.out, txt_snoc]), hB⟩
end Go.Proofs.Ythgkkaifdlkciaa
