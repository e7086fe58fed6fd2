import Derived.Test.YthgkkaifdlkciaaYKind01
import Derived.Test.YthgkkaifdlkciaaYKind02
import Derived.StillTailTactics
import Derived.IntWalk
import Derived.Deep.RegionWith
import Derived.Laws.OwnMore
/- The laws' copies and comparisons of machines. -/
namespace Go.Proofs.Ythgkkaifdlkciaa
open Go.RowKit
set_option linter.unusedVariables false
set_option linter.unusedSimpArgs false

set_option maxHeartbeats 1000000 in
theorem toByteA3_any (x y z : Int) (w : World) :
    Calls Try.prog 46 #[.agg #[.int .u8 x, .int .u8 y, .int .u8 z]] w (Ret (.agg #[.int .u8 x, .int .u8 y, .int .u8 z]) w) := by
  go_enter Try.func46, Try.ntmps46
  go_wp2
  refine wp_loop_rounds 4 ?_
  rw [rounds_succ]
  go_wp2
  rw [rounds_succ]
  go_wp2
  rw [rounds_succ]
  go_wp2
  rw [rounds_succ]
  go_wp2
  exact bodyPost_ret (v := .agg #[.int .u8 x, .int .u8 y, .int .u8 z]) (by simp [results, Try.results46, go_sem]) rfl ⟨rfl, (((Below.refl _ _).alloc (Nat.le_refl _) _).alloc (by simp) _).alloc (by simp; omega) _⟩

def pad (xs : List Int) (k : Nat) : List Int := xs.take (k * 3) ++ List.replicate (48 - k * 3) 0
theorem pad_length {xs : List Int} {k : Nat} (h : xs.length = 48) (hk : k ≤ 16) : (pad xs k).length = 48 := by simp [pad, h]; omega
theorem pad_step {xs : List Int} {k : Nat} (h : xs.length = 48) (hk : k < 16) :
    (((u8s (pad xs k)).set (k * 3) (.int .u8 (xs[k * 3]?.getD 0))).set (k * 3 + 1) (.int .u8 (xs[k * 3 + 1]?.getD 0))).set (k * 3 + 2) (.int .u8 (xs[k * 3 + 2]?.getD 0)) = u8s (pad xs (k + 1)) := by
  apply List.ext_getElem?
  intro i
  have hl : (u8s (pad xs k)).length = 48 := by simp [u8s, pad_length h (by omega : k ≤ 16)]
  have hl' : (u8s (pad xs (k + 1))).length = 48 := by simp [u8s, pad_length h (by omega : k + 1 ≤ 16)]
  by_cases hi : i < 48
  · have e' : (u8s (pad xs (k + 1)))[i]? = some (.int .u8 (if i < (k + 1) * 3 then xs[i]?.getD 0 else 0)) := by
      rw [u8s_get (by rw [pad_length h (by omega : k + 1 ≤ 16)]; exact hi)]
      congr 2
      simp only [pad]
      by_cases c : i < (k + 1) * 3
      · rw [if_pos c, List.getElem?_append_left (by simp; omega), List.getElem?_take, if_pos c]
      · rw [if_neg c, List.getElem?_append_right (by simp; omega), List.getElem?_replicate]
        split <;> rfl
    have e0 : (u8s (pad xs k))[i]? = some (.int .u8 (if i < k * 3 then xs[i]?.getD 0 else 0)) := by
      rw [u8s_get (by rw [pad_length h (by omega : k ≤ 16)]; exact hi)]
      congr 2
      simp only [pad]
      by_cases c : i < k * 3
      · rw [if_pos c, List.getElem?_append_left (by simp; omega), List.getElem?_take, if_pos c]
      · rw [if_neg c, List.getElem?_append_right (by simp; omega), List.getElem?_replicate]
        split <;> rfl
    rw [e']
    by_cases c2 : i = k * 3 + 2
    · subst c2; rw [List.getElem?_set_self (by simp [hl]; omega), if_pos (by omega)]
    · rw [List.getElem?_set_ne (by omega)]
      by_cases c1 : i = k * 3 + 1
      · subst c1; rw [List.getElem?_set_self (by simp [hl]; omega), if_pos (by omega)]
      · rw [List.getElem?_set_ne (by omega)]
        by_cases c0 : i = k * 3
        · subst c0; rw [List.getElem?_set_self (by simp [hl]; omega), if_pos (by omega)]
        · rw [List.getElem?_set_ne (by omega), e0]
          congr 2
          by_cases c : i < k * 3
          · rw [if_pos c, if_pos (by omega)]
          · rw [if_neg c, if_neg (by omega)]
  · rw [List.getElem?_eq_none (by simp [hl]; omega), List.getElem?_eq_none (by rw [hl']; omega)]

set_option maxHeartbeats 2000000 in
theorem toByteA3A16_any (xs : List Int) (hx : xs.length = 48) (w : World) :
    Calls Try.prog 27 #[.agg (u8s xs).toArray] w (Ret (.agg (u8s xs).toArray) w) := by
  have HX := Lib.hid hx
  clear hx
  go_enter Try.func27, Try.ntmps27
  go_wp2
  obtain ⟨n, hn⟩ : ∃ n, n = w.heap.size := ⟨_, rfl⟩
  rw [← hn]
  have HN := Lib.hid hn
  clear hn
  go_loopw [4] (fun i wr => ∃ k : Nat, k ≤ 16 ∧ i = .int .i64 k ∧ Blk wr n (u8s xs) 23 ∧ Blk wr (n + 1) (u8s (List.replicate 48 0)) 23 ∧ Blk wr (n + 1 + 1) (u8s (pad xs k)) 23 ∧ Below n w wr) (fun i _ => 16 - (intOf i).toNat)
  case atStart =>
    have e1 : (n + 1) = (w.alloc (.cells (u8s xs).toArray 23)).heap.size := by rw [HN.out]; simp
    refine ⟨0, by omega, rfl, ?_, ?_, ?_, ?_⟩
    · rw [HN.out]; exact ((Blk.new w _ _).alloc _).alloc _
    · have := (Blk.new (w.alloc (.cells (u8s xs).toArray 23)) (u8s (List.replicate 48 0)).toArray 23).alloc (.cells (u8s (List.replicate 48 0)).toArray 23)
      rw [← e1] at this
      exact this
    · have := Blk.new ((w.alloc (.cells (u8s xs).toArray 23)).alloc (.cells (u8s (List.replicate 48 0)).toArray 23)) (u8s (List.replicate 48 0)).toArray 23
      rw [show ((w.alloc (.cells (u8s xs).toArray 23)).alloc (.cells (u8s (List.replicate 48 0)).toArray 23)).heap.size = n + 1 + 1 by rw [HN.out]; simp] at this
      exact this
    · rw [HN.out]; exact (((Below.refl _ _).alloc (Nat.le_refl _) _).alloc (by simp) _).alloc (by simp; omega) _
  case round =>
    obtain ⟨k, hk, rfl, hA, hR, hB, hb⟩ := hrel
    by_cases hlt : k < 16
    · have hx := HX.out
      have a0 := hA.cell' (u8s_get (i := k * 3) (by omega))
      have a1 := hA.cell' (u8s_get (i := k * 3 + 1) (by omega))
      have a2 := hA.cell' (u8s_get (i := k * 3 + 2) (by omega))
      have hp : (pad xs k).length = 48 := pad_length hx hk
      have b0 := hB.cell' (u8s_get (i := k * 3) (by omega))
      have b1 := hB.cell' (u8s_get (i := k * 3 + 1) (by omega))
      have b2 := hB.cell' (u8s_get (i := k * 3 + 2) (by omega))
      have f0 := hB.free (k * 3)
      have f1 := hB.free (k * 3 + 1)
      have f2 := hB.free (k * 3 + 2)
      have HP := Lib.hid (pad_step hx hlt)
      clear hx hp
      obtain ⟨x0, e0⟩ : ∃ x, x = xs[k * 3]?.getD 0 := ⟨_, rfl⟩
      obtain ⟨x1, e1⟩ : ∃ x, x = xs[k * 3 + 1]?.getD 0 := ⟨_, rfl⟩
      obtain ⟨x2, e2⟩ : ∃ x, x = xs[k * 3 + 2]?.getD 0 := ⟨_, rfl⟩
      rw [← e0] at a0 HP
      rw [← e1] at a1 HP
      rw [← e2] at a2 HP
      clear e0 e1 e2
      have i1 : (k : Int) < 16 := by omega
      have i2 : (0 : Int) ≤ (k : Int) := by omega
      go_wp2_with fail
      refine (toByteA3_any _ _ _ _).mono ?_
      rintro e w1 ⟨rfl, hb1⟩
      have hA1 := hA.keep hb1
      have hR1 := hR.keep hb1
      have hB1 := hB.keep hb1
      have hbb := hb.trans (hb1.mono (Nat.le_of_lt (Nat.lt_of_lt_of_le (by omega : n < n + 1 + 1 + 1) (by have := hB.lt; omega))))
      have b0' := (hb1.cell (p := ⟨n + 1 + 1, k * 3, none⟩) hB.lt).trans b0
      have b1' := (hb1.cell (p := ⟨n + 1 + 1, k * 3 + 1, none⟩) hB.lt).trans b1
      have b2' := (hb1.cell (p := ⟨n + 1 + 1, k * 3 + 2, none⟩) hB.lt).trans b2
      have f0' := hB1.free (k * 3)
      have f1' := hB1.free (k * 3 + 1)
      have f2' := hB1.free (k * 3 + 2)
      clear a0 a1 a2 b0 b1 b2 f0 f1 f2
      go_wp2
      go_roundw
      case rel =>
        refine ⟨k + 1, by omega, by go_num, ((hA1.setOther (by simp only; omega) _).setOther (by simp only; omega) _).setOther (by simp only; omega) _, ((hR1.setOther (by simp only; omega) _).setOther (by simp only; omega) _).setOther (by simp only; omega) _, ?_, ?_⟩
        · rw [← HP.out]
          exact ((hB1.setCell _ _).setCell _ _).setCell _ _
        · exact ((hbb.setCell (by simp; omega) _).setCell (by simp; omega) _).setCell (by simp; omega) _
      case measure => simp [intOf]; omega
    · have hk' : k = 16 := by omega
      subst hk'
      have hx := HX.out
      have hp : pad xs 16 = xs := by simp [pad, hx]; exact List.take_of_length_le (by omega)
      rw [hp] at hB
      have hl : (u8s xs).length = 48 := by simp [u8s, hx]
      have hi : (Try.prog.info? 23).map (·.size) = some (u8s xs).length := by rw [hl]; kernel_rfl
      have hi' : (Try.prog.info? 23).map (·.size) = some (u8s xs).toArray.size := by rw [List.size_toArray]; exact hi
      have hra : wr.rangeAt (n + 1 + 1) 0 (u8s xs) := hB.range 0 _ (fun j v h => by simpa using h)
      have hth : wr.there (n + 1) 0 (u8s xs).toArray.size := hR.there 0 _ (by simp [u8s, hx])
      have h1 : (u8s xs).toArray.all (·.oneCell') = true := all_oneCell_toArray (fun v hv => by simp only [u8s, List.mem_map] at hv; obtain ⟨z, _, rfl⟩ := hv; rfl)
      have hne : splice (u8s (List.replicate 48 0)) 0 (u8s xs) = u8s xs := by
        apply List.ext_getElem?
        intro i
        rw [splice_get]
        by_cases hi : i < 48
        · rw [if_pos ⟨by omega, by rw [hl]; omega, by simpa [u8s] using hi⟩]; simp
        · rw [if_neg (by simp [u8s]; omega), List.getElem?_eq_none (by simp [u8s]; omega), List.getElem?_eq_none (by rw [hl]; omega)]
      have HNE := Lib.hid hne
      have HI := Lib.hid hi'
      clear hx hp hne hl hi hi'
      go_wp2_with (first | (refine wpList_load_mid rfl 23 (.tmp 3) rfl (n + 1 + 1) 0 rfl (u8s xs) (.array 16 22) hra Try.underlying23 rfl (HI.out.trans (by rw [List.size_toArray])) ?_) | (refine wpList_store_mid rfl 23 (.tmp 2) (.tmp 15) rfl (n + 1) 0 _ rfl rfl hth HI.out h1 ?_))
      have hfin := hR.setCells (u8s xs) 0
      rw [HNE.out] at hfin
      exact bodyPost_ret (v := .agg (u8s xs).toArray) (results_cell_row Try.results27 _ _ (n + 1) 23 (u8s xs).toArray (0, 0) (.array 16 22) rfl hfin Try.underlying23 rfl HI.out) rfl ⟨rfl, by rw [HN.out] at hb; exact below_setCells (by rw [HN.out]; omega) _ hb 0⟩

theorem after3 {w0 w1 : World} {A Z C : Array Value} {TA TZ TC : TypeId} (hb : Below (((w0.alloc (.cells A TA)).alloc (.cells Z TZ)).alloc (.cells C TC)).heap.size (((w0.alloc (.cells A TA)).alloc (.cells Z TZ)).alloc (.cells C TC)) w1) :
    Blk w1 w0.heap.size A.toList TA ∧ Blk w1 (w0.heap.size + 1) Z.toList TZ ∧ Blk w1 (w0.heap.size + 1 + 1) C.toList TC ∧ Below w0.heap.size w0 w1 := by
  have e1 : (w0.alloc (.cells A TA)).heap.size = w0.heap.size + 1 := by simp
  have e2 : ((w0.alloc (.cells A TA)).alloc (.cells Z TZ)).heap.size = w0.heap.size + 1 + 1 := by simp
  refine ⟨(((Blk.new w0 A TA).alloc _).alloc _).keep hb, ?_, ?_, ((((Below.refl _ _).alloc (Nat.le_refl _) _).alloc (by simp) _).alloc (by simp; omega) _).trans (hb.mono (by simp; omega))⟩
  · have := ((Blk.new (w0.alloc (.cells A TA)) Z TZ).alloc (.cells C TC)).keep hb
    rwa [e1] at this
  · have := (Blk.new ((w0.alloc (.cells A TA)).alloc (.cells Z TZ)) C TC).keep hb
    rwa [e2] at this

theorem mach_splice {m : Mch} (hw : m.Wf) (Z : Array Value) (hZ : Z.size = 98) :
    splice (splice ((Z.setIfInBounds 0 (Value.int IntKind.i64 m.L)).setIfInBounds 1 (Value.int IntKind.i64 m.S)).toList 2 (u8s m.N)) 50 (u8s m.O) = m.cells := by
  have hn := hw.nl
  have ho := hw.ol
  have hN : (u8s m.N).length = 48 := by simp [u8s, hn]
  have hO : (u8s m.O).length = 48 := by simp [u8s, ho]
  have hZl : ((Z.setIfInBounds 0 (Value.int IntKind.i64 m.L)).setIfInBounds 1 (Value.int IntKind.i64 m.S)).toList.length = 98 := by simp [hZ]
  apply List.ext_getElem?
  intro i
  rw [splice_get, splice_length, splice_get, hN, hO, hZl]
  by_cases c1 : 50 ≤ i ∧ i < 50 + 48 ∧ i < 98
  · rw [if_pos c1]
    simp only [Mch.cells]
    rw [show i = (48 + (i - 50)) + 1 + 1 by omega, List.getElem?_cons_succ, List.getElem?_cons_succ, List.getElem?_map, List.getElem?_append_right (by omega), ← List.getElem?_map, show 48 + (i - 50) - m.N.length = i - 50 by omega, show 48 + (i - 50) + 1 + 1 - 50 = i - 50 by omega]
    rfl
  · rw [if_neg c1]
    by_cases c2 : 2 ≤ i ∧ i < 2 + 48 ∧ i < 98
    · rw [if_pos c2]
      simp only [Mch.cells]
      rw [show i = (i - 2) + 1 + 1 by omega, List.getElem?_cons_succ, List.getElem?_cons_succ, List.getElem?_map, List.getElem?_append_left (by omega), ← List.getElem?_map, show i - 2 + 1 + 1 - 2 = i - 2 by omega]
      rfl
    · rw [if_neg c2]
      by_cases c3 : i < 98
      · have : i = 0 ∨ i = 1 := by omega
        rcases this with rfl | rfl
        · simp [Mch.cells, hZ, Array.getElem?_setIfInBounds]
        · simp [Mch.cells, hZ, Array.getElem?_setIfInBounds]
      · rw [List.getElem?_eq_none (by rw [hZl]; omega), List.getElem?_eq_none (by rw [Mch.cells_length hw]; omega)]

set_option maxRecDepth 100000 in
set_option maxHeartbeats 2000000 in
theorem toMachine_any (m : Mch) (hw : m.Wf) (w : World) :
    Calls Try.prog 9 #[.agg m.cells.toArray] w (Ret (.agg m.cells.toArray) w) := by
  have hl : m.cells[0]? = some (.int .i64 m.L) := rfl
  have hs : m.cells[1]? = some (.int .i64 m.S) := rfl
  have hz0 : Try.zeroCells28[0]? = some (.int .i64 0) := by kernel_rfl
  have hz1 : Try.zeroCells28[1]? = some (.int .i64 0) := by kernel_rfl
  go_enter Try.func9, Try.ntmps9
  have hN : (u8s m.N).length = 48 := by simp [u8s, hw.nl]
  have hO : (u8s m.O).length = 48 := by simp [u8s, hw.ol]
  have hiN : (Try.prog.info? 23).map (·.size) = some (u8s m.N).length := by rw [hN]; kernel_rfl
  have hiO : (Try.prog.info? 23).map (·.size) = some (u8s m.O).length := by rw [hO]; kernel_rfl
  have HIN := Lib.hid hiN
  have HIO := Lib.hid hiO
  have HLN := Lib.hid hN
  have HLO := Lib.hid hO
  clear hN hO hiN hiO
  have hr1 : ∀ A B : Obj, (((w.alloc (.cells m.cells.toArray 25)).alloc A).alloc B).rangeAt w.heap.size 2 (u8s m.N) := fun A B => by
    refine (((Blk.new w m.cells.toArray 25).alloc A).alloc B).range 2 _ (fun j v h => ?_)
    have hj : j < m.N.length := by have := (List.getElem?_eq_some_iff.1 h).1; simpa [u8s] using this
    simp only [Mch.cells]
    rw [show 2 + j = j + 1 + 1 by omega, List.getElem?_cons_succ, List.getElem?_cons_succ, List.getElem?_map, List.getElem?_append_left hj, ← List.getElem?_map]
    exact h
  go_wp2_with ((with_reducible refine wpList_load_mid ?_ 23 (.tmp 10) ?_ w.heap.size 2 ?_ (u8s m.N) (.array 16 22) (hr1 _ _) Try.underlying23 ?_ HIN.out ?_); exact rfl; exact rfl; exact rfl; exact rfl)
  refine (toByteA3A16_any m.N hw.nl _).mono ?_
  rintro e w1 ⟨rfl, hb1⟩
  obtain ⟨hM, hZ, hT, hb⟩ := after3 hb1
  clear hb1
  obtain ⟨n, hn⟩ : ∃ n, n = w.heap.size := ⟨_, rfl⟩
  rw [← hn] at hM hZ hT
  rw [← hn]
  have HN := Lib.hid hn
  have h1 : (u8s m.N).toArray.all (·.oneCell') = true := all_oneCell_toArray (fun v hv => by simp only [u8s, List.mem_map] at hv; obtain ⟨z, _, rfl⟩ := hv; rfl)
  have h2 : (u8s m.O).toArray.all (·.oneCell') = true := all_oneCell_toArray (fun v hv => by simp only [u8s, List.mem_map] at hv; obtain ⟨z, _, rfl⟩ := hv; rfl)
  have hcl : ((Try.zeroCells28.setIfInBounds 0 (Value.int IntKind.i64 m.L)).setIfInBounds 1 (Value.int IntKind.i64 m.S)).toList.length = 98 := by simp [Try.zeroCells28_size]
  have ht1 := hT.there 2 (u8s m.N).toArray.size (by rw [hcl, List.size_toArray, HLN.out]; omega)
  have hT2 := hT.setCells (u8s m.N) 2
  have hM2 := hM.setsOther (c := n + 1 + 1) (by omega) (u8s m.N) 2
  have hZ2 := hZ.setsOther (c := n + 1 + 1) (by omega) (u8s m.N) 2
  have hb' : Below n w w1 := by rw [HN.out]; exact hb
  have hb2 := below_setCells (b := n + 1 + 1) (by omega) (u8s m.N) hb' 2
  have hr2 := hM2.range 50 (u8s m.O) (fun j v h => by
    have hj : j < m.O.length := by have := (List.getElem?_eq_some_iff.1 h).1; simpa [u8s] using this
    have e := hw.nl
    simp only [Mch.cells]
    rw [show 50 + j = (48 + j) + 1 + 1 by omega, List.getElem?_cons_succ, List.getElem?_cons_succ, List.getElem?_map, List.getElem?_append_right (by omega), show 48 + j - m.N.length = j by omega, ← List.getElem?_map]
    exact h)
  have HC := Lib.hid (mach_splice hw Try.zeroCells28 Try.zeroCells28_size)
  have hI1 : Hid ((Try.prog.info? 23).map (·.size) = some (u8s m.N).toArray.size) := HIN.out.trans (by rw [List.size_toArray])
  have hI2 : Hid ((Try.prog.info? 23).map (·.size) = some (u8s m.O).toArray.size) := HIO.out.trans (by rw [List.size_toArray])
  clear hn hr1 hcl
  go_wp2_with (first | ((with_reducible refine wpList_store_mid ?_ 23 (.tmp 13) (.tmp 12) ?_ (n + 1 + 1) 2 (u8s m.N).toArray ?_ ?_ ht1 hI1.out h1 ?_); exact rfl; exact rfl; exact rfl; exact rfl) | ((with_reducible refine wpList_load_mid ?_ 23 (.tmp 14) ?_ n 50 ?_ (u8s m.O) (.array 16 22) hr2 Try.underlying23 ?_ HIO.out ?_); exact rfl; exact rfl; exact rfl; exact rfl))
  refine (toByteA3A16_any m.O hw.ol _).mono ?_
  rintro e w2 ⟨rfl, hb3⟩
  have hT3 := hT2.keep hb3
  have hZ3 := hZ2.keep hb3
  have hb4 : Below n w w2 := hb2.trans (hb3.mono (Nat.le_of_lt hM2.lt))
  have ht3 := hT3.there 50 (u8s m.O).toArray.size (by rw [splice_length, List.size_toArray, HLO.out]; simp [Try.zeroCells28_size])
  have hT4 := hT3.setCells (u8s m.O) 50
  rw [HC.out] at hT4
  have hZ4 := hZ3.setsOther (c := n + 1 + 1) (by omega) (u8s m.O) 50
  have hb5 := below_setCells (b := n + 1 + 1) (by omega) (u8s m.O) hb4 50
  have hr4 := hT4.range 0 m.cells (fun j v h => by simpa using h)
  have hi4 : Hid ((Try.prog.info? 28).map (·.size) = some m.cells.length) := by show _ = _; rw [Mch.cells_length hw]; kernel_rfl
  have hi5 : Hid ((Try.prog.info? 28).map (·.size) = some m.cells.toArray.size) := hi4.out.trans (by rw [List.size_toArray])
  have ht5 := hZ4.there 0 m.cells.toArray.size (by rw [List.size_toArray, Mch.cells_length hw]; simp [Try.zeroCells28_size])
  have h5 : m.cells.toArray.all (·.oneCell') = true := all_oneCell_toArray (fun v hv => by simp only [Mch.cells, List.mem_cons, List.mem_map] at hv; rcases hv with rfl | rfl | ⟨z, _, rfl⟩ <;> rfl)
  have hZ6 := hZ4.setCells m.cells 0
  have HZ6 := Lib.hid (show splice Try.zeroCells28.toList 0 m.cells = m.cells from splice_all (by rw [Mch.cells_length hw]; simp [Try.zeroCells28_size]))
  have hb6 := below_setCells (b := n + 1) (by omega) m.cells hb5 0
  go_wp2_with (first | ((with_reducible refine wpList_store_mid ?_ 23 (.tmp 17) (.tmp 16) ?_ (n + 1 + 1) 50 (u8s m.O).toArray ?_ ?_ ht3 hI2.out h2 ?_); exact rfl; exact rfl; exact rfl; exact rfl) | ((with_reducible refine wpList_load_mid ?_ 28 (.tmp 3) ?_ (n + 1 + 1) 0 ?_ m.cells (.struct _) hr4 Try.underlying28 ?_ hi4.out ?_); exact rfl; exact rfl; exact rfl; exact rfl) | ((with_reducible refine wpList_store_mid ?_ 28 (.tmp 2) (.tmp 18) ?_ (n + 1) 0 m.cells.toArray ?_ ?_ ht5 hi5.out h5 ?_); exact rfl; exact rfl; exact rfl; exact rfl))
  rw [HZ6.out] at hZ6
  exact bodyPost_ret (v := .agg m.cells.toArray) (results_cell_row Try.results9 _ _ (n + 1) 28 m.cells.toArray (0, 0) (.struct _) rfl hZ6 Try.underlying28 rfl hi5.out) rfl ⟨rfl, by rw [← HN.out]; exact hb6⟩
end Go.Proofs.Ythgkkaifdlkciaa

/- The inverse machine: reference and program. -/
namespace Go.Proofs.Ythgkkaifdlkciaa
open Go.RowKit
set_option linter.unusedVariables false
set_option linter.unusedSimpArgs false

theorem map48_congr {f g : Nat → Int} (h : ∀ i, i < 48 → f i = g i) : (List.range 48).map f = (List.range 48).map g := List.map_congr_left fun i hi => h i (by simpa using hi)
theorem map48_set (f : Nat → Int) {j : Nat} (hj : j < 48) (v : Int) : ((List.range 48).map f).set j v = (List.range 48).map fun i => if i = j then v else f i := by
  apply List.ext_getElem
  · simp
  · intro i h1 h2
    rw [List.getElem_set]
    simp only [List.getElem_map, List.getElem_range]
    by_cases e : j = i
    · subst e; simp
    · rw [if_neg e, if_neg (fun h => e h.symm)]
theorem cells_setN (L S : Int) (N O : List Int) (i : Nat) (hi : i < N.length) (v : Int) : (Mch.cells ⟨L, S, N, O⟩).set (2 + i) (.int .u8 v) = Mch.cells ⟨L, S, N.set i v, O⟩ := by
  simp only [Mch.cells]
  rw [show 2 + i = i + 1 + 1 by omega, List.set_cons_succ, List.set_cons_succ, ← List.map_set, List.set_append_left _ _ hi]
theorem cells_setO (L S : Int) (N O : List Int) (i : Nat) (hn : N.length = 48) (v : Int) : (Mch.cells ⟨L, S, N, O⟩).set (50 + i) (.int .u8 v) = Mch.cells ⟨L, S, N, O.set i v⟩ := by
  simp only [Mch.cells]
  rw [show 50 + i = (48 + i) + 1 + 1 by omega, List.set_cons_succ, List.set_cons_succ, ← List.map_set, List.set_append_right _ _ (by omega), hn, show 48 + i - 48 = i by omega]
theorem zero98 (a b : Value) : ((Try.zeroCells28.setIfInBounds 0 a).setIfInBounds 1 b).toList = a :: b :: ((List.replicate 48 (0 : Int)) ++ (List.replicate 48 (0 : Int))).map (Value.int .u8) := by
  kernel_rfl
theorem mach_ones (m : Mch) : ∀ v ∈ m.cells, v.oneCell' = true := fun v hv => by
  simp only [Mch.cells, List.mem_cons, List.mem_map] at hv
  rcases hv with rfl | rfl | ⟨z, _, rfl⟩ <;> rfl
theorem mach_infoT {m : Mch} (hwf : m.Wf) : (Try.prog.info? 28).map (·.size) = some m.cells.length := by rw [Mch.cells_length hwf]; kernel_rfl

theorem zero_len : Try.zeroCells28.toList.length = 98 := by kernel_rfl
end Go.Proofs.Ythgkkaifdlkciaa

/- Words of a level and their numbers: no program in sight. -/
namespace Go.Proofs.Ythgkkaifdlkciaa
open Go.RowKit
set_option linter.unusedVariables false
set_option linter.unusedSimpArgs false

end Go.Proofs.Ythgkkaifdlkciaa

/- codeOf, lead. -/
namespace Go.Proofs.Ythgkkaifdlkciaa
open Go.RowKit
set_option linter.unusedVariables false
set_option linter.unusedSimpArgs false

def codesP (m : Mch) (qs : List Int) (s : ByteArray) : Int := if machP m && wordP m.L s then (if qs.any (fun q => !inR q 0 (m.S - 1)) then 2 else 0) else 1
theorem codesP_one (m : Mch) (q : Int) (s : ByteArray) : codesP m [q] s = codeP m q s := by
  simp only [codesP, codeP, List.any_cons, List.any_nil, Bool.or_false]
  cases inR q 0 (m.S - 1) <;> rfl

theorem codeOf1_any (b o : Nat) (m : Mch) (hwf : m.Wf) (hok : m.Ok) (q : Int) (w : World) (hm : MAt w b o m) :
    Calls Try.prog 55 #[.int .i64 q, .pointer (some ⟨b, o, none⟩)] w fun e w' => e = .returned (.bool (!inR q 0 (m.S - 1))) ∧ w = w' := by
  go_enter Try.func55, Try.ntmps55
  go_wp2_with (go_at_call 56; refine (isState_any b o m hwf hok _ _ hm).mono ?_; rintro e w' ⟨rfl, rfl⟩)
  go_ret
  exact ⟨rfl, rfl⟩

set_option maxRecDepth 100000 in
set_option maxHeartbeats 1000000 in
theorem codeOf_any (m : Mch) (hwf : m.Wf) (a : Option Addr) (qs : List Int) (c : Nat) (hn : qs.length ≤ 100) (s : ByteArray) (hs : Short s) (w : World) (hq : IntsAt w a qs) :
    Calls Try.prog 31 #[.agg m.cells.toArray, .string s, .slice a qs.length c] w (Ret (.int .i64 (codesP m qs s)) w) := by
  have hm := MAt.boxed w m 28
  have hb0 := boxedBelow w m.cells.toArray 28
  have hmf : ∀ (fn : Fn) (first cap : Array Value) (w : World), (Instr.makeFunc fn first cap).run Try.prog w = .ok (.func fn first cap) w := fun _ _ _ _ => rfl
  have HC : Hid (codesP m qs s = if machP m && wordP m.L s then (if qs.any (fun q => !inR q 0 (m.S - 1)) then 2 else 0) else 1) := rfl
  have HS := Lib.hid hs
  have HN := Lib.hid hn
  have HQ := Lib.hid hq
  clear hs hn hq
  go_enter Try.func31, Try.ntmps31
  by_cases c1 : machP m = true
  · have hok := mach_ok c1
    by_cases c2 : wordP m.L s = true
    · go_wp2_with ((with_reducible refine ld_mach ?_ (.tmp 3) ?_ (w.heap.size) (0) ?_ m hm hwf ?_); exact rfl; exact rfl; exact rfl)
      refine (IsMachine_any m hwf _).mono ?_
      rintro e w1 ⟨rfl, hb1⟩
      have hm1 := hm.keep hb1 hwf
      have hl1 : w1.cell? ⟨w.heap.size, 0, none⟩ = some (.int .i64 m.L) := hm1.l
      have hbb := hb0.trans (hb1.mono hb0.size)
      rw [c1]
      go_wp2_with (go_at_call 53; refine (isWord_any _ _ _ HS.out).mono ?_; rintro e w' ⟨rfl, rfl⟩)
      refine (containsFuncI_any _ enters_codeOf #[.pointer (some ⟨w.heap.size, 0, none⟩)] a qs c (by have := HN.out; omega) (fun q => !inR q 0 (m.S - 1)) w1 (fun w' => w' = w1) rfl (fun w' h => by rw [h]; exact HQ.out.below hbb) (fun w' h i hi => by rw [h]; exact (codeOf1_any w.heap.size 0 m hwf hok _ w1 hm1).mono fun e w'' ⟨he, hw⟩ => ⟨he, hw.symm⟩)).mono ?_
      rintro e w2 ⟨rfl, rfl⟩
      have HF := Lib.hid (show codesP m qs s = if qs.any (fun q => !inR q 0 (m.S - 1)) then 2 else 0 by rw [HC.out]; simp [c1, c2])
      cases h : qs.any (fun q => !inR q 0 (m.S - 1))
      · rw [h] at HF
        clear h hmf
        go_wp2
        go_ret
        exact ⟨ret_int HF.out.symm, hbb⟩
      · rw [h] at HF
        clear h hmf
        go_wp2
        go_ret
        exact ⟨ret_int HF.out.symm, hbb⟩
    · have HF := Lib.hid (show codesP m qs s = 1 by rw [HC.out]; simp [c1, c2])
      have c2' : wordP m.L s = false := by simpa using c2
      clear c2
      go_wp2_with ((with_reducible refine ld_mach ?_ (.tmp 3) ?_ (w.heap.size) (0) ?_ m hm hwf ?_); exact rfl; exact rfl; exact rfl)
      refine (IsMachine_any m hwf _).mono ?_
      rintro e w1 ⟨rfl, hb1⟩
      have hm1 := hm.keep hb1 hwf
      have hl1 : w1.cell? ⟨w.heap.size, 0, none⟩ = some (.int .i64 m.L) := hm1.l
      rw [c1]
      go_wp2_with (go_at_call 53; refine (isWord_any _ _ _ HS.out).mono ?_; rintro e w' ⟨rfl, rfl⟩)
      go_ret
      exact ⟨ret_int HF.out.symm, hb0.trans (hb1.mono hb0.size)⟩
  · have HF := Lib.hid (show codesP m qs s = 1 by rw [HC.out]; simp [c1])
    have c1' : machP m = false := by simpa using c1
    clear c1
    go_wp2_with ((with_reducible refine ld_mach ?_ (.tmp 3) ?_ (w.heap.size) (0) ?_ m hm hwf ?_); exact rfl; exact rfl; exact rfl)
    refine (IsMachine_any m hwf _).mono ?_
    rintro e w1 ⟨rfl, hb1⟩
    rw [c1']
    go_wp2
    go_ret
    exact ⟨ret_int HF.out.symm, hb0.trans (hb1.mono hb0.size)⟩

end Go.Proofs.Ythgkkaifdlkciaa

/- lead: what a state makes of a word, and its section there. -/
namespace Go.Proofs.Ythgkkaifdlkciaa
open Go.RowKit
set_option linter.unusedVariables false
set_option linter.unusedSimpArgs false

end Go.Proofs.Ythgkkaifdlkciaa

/- Powers, words of a level, their numbers: contracts of both sides. -/
namespace Go.Proofs.Ythgkkaifdlkciaa
open Go.RowKit
set_option linter.unusedVariables false
set_option linter.unusedSimpArgs false

/-! words -/
end Go.Proofs.Ythgkkaifdlkciaa

/- Levels; numbers of words; codes of levels: contracts of both sides. -/
namespace Go.Proofs.Ythgkkaifdlkciaa
open Go.RowKit
set_option linter.unusedVariables false
set_option linter.unusedSimpArgs false

end Go.Proofs.Ythgkkaifdlkciaa

/- Tables: two slices of rows under one pointer, while they are built. -/
namespace Go.Proofs.Ythgkkaifdlkciaa
open Go.RowKit
set_option linter.unusedVariables false
set_option linter.unusedSimpArgs false

def i64s (xs : List Int) : List Value := xs.map (Value.int .i64)
theorem i64s_get {xs : List Int} {i : Nat} (h : i < xs.length) : (i64s xs)[i]? = some (.int .i64 (xs[i]?.getD 0)) := by
  simp [i64s, List.getElem?_eq_getElem h]
/-- v is a slice of the values xs, at the head of a block of E's that nobody has frozen -/
def RowV (w : World) (E : TypeId) (v : Value) (xs : List Value) : Prop :=
  ∃ g c cur, v = .slice (some ⟨g, 0, none⟩) xs.length c ∧ w.heap[g]? = some (.cells cur E (0, 0)) ∧ cur.toList.take xs.length = xs
theorem RowV.same {w w' : World} {E : TypeId} {v : Value} {xs : List Value} (h : RowV w E v xs) (hb : ∀ (g : Nat) (cur : Array Value), w.heap[g]? = some (.cells cur E (0, 0)) → w'.heap[g]? = some (.cells cur E (0, 0))) : RowV w' E v xs := by
  obtain ⟨g, c, cur, hv, hg, ht⟩ := h
  exact ⟨g, c, cur, hv, hb g cur hg, ht⟩
theorem RowV.keep {w w' : World} {E : TypeId} {v : Value} {xs : List Value} (h : RowV w E v xs) (hb : Below w.heap.size w w') : RowV w' E v xs :=
  h.same fun g cur hg => (hb.block g (Array.getElem?_eq_some_iff.1 hg).1).trans hg
theorem RowV.of_own {w : World} {base : Nat} {E : TypeId} {v : Value} {xs : List Value} (h : w.ownsRow base E 1 v xs.length xs) (h0 : 0 < xs.length) : RowV w E v xs := by
  rcases h.2 with ⟨_, e⟩ | ⟨g, cap, cur, rfl, hb, hg, h1, h2, h3, h4⟩
  · omega
  · exact ⟨g, cap, cur, rfl, hg, by simpa using h4⟩
theorem RowV.cell {w : World} {E : TypeId} {v : Value} {xs : List Value} (h : RowV w E v xs) : ∃ g c, v = .slice (some ⟨g, 0, none⟩) xs.length c ∧ ∀ i (hi : i < xs.length), w.cell? ⟨g, i, none⟩ = some xs[i] := by
  obtain ⟨g, c, cur, hv, hg, ht⟩ := h
  refine ⟨g, c, hv, fun i hi => ?_⟩
  rw [cell_of_row w g i _ E _ hg, ← Array.getElem?_toList, ← List.getElem?_take_of_lt hi, ht, List.getElem?_eq_getElem hi]

/-- an append to a row of another type leaves it -/
theorem RowV.grown {w w' : World} {E F : TypeId} {v o : Value} {xs ys : List Value} {base n : Nat} (h : RowV w E v xs) (hg : w.grownBy w' o.ownBlock) (ho : w.ownsRow base F 1 o n ys) (hne : E ≠ F) : RowV w' E v xs :=
  h.same fun g cur hc => by
    rw [hg.block g (Array.getElem?_eq_some_iff.1 hc).1 (fun e => ?_)]; exact hc
    rcases ho.2 with ⟨rfl, _⟩ | ⟨g', cap, cur', rfl, _, hg', _⟩
    · simp [Value.ownBlock] at e
    · simp [Value.ownBlock] at e
      subst e
      rw [hg'] at hc
      simp at hc
      exact hne hc.2.symm
theorem Blk.grown {w w' : World} {b T F : Nat} {cs ys : List Value} {o : Value} {base n : Nat} (h : Blk w b cs T) (hg : w.grownBy w' o.ownBlock) (ho : w.ownsRow base F 1 o n ys) (hne : T ≠ F) : Blk w' b cs T := by
  show _ = _
  rw [hg.block b h.lt (fun e => ?_)]; exact h
  rcases ho.2 with ⟨rfl, _⟩ | ⟨g', cap, cur', rfl, _, hg', _⟩
  · simp [Value.ownBlock] at e
  · simp [Value.ownBlock] at e
    subst e
    have := hg'.symm.trans h
    simp at this
    exact hne this.2.symm

/-- slices of rows -/
def RowsV (w : World) (E : TypeId) (rs : List Value) (N : List (List Value)) : Prop := rs.length = N.length ∧ ∀ (i : Nat) (v : Value) (xs : List Value), rs[i]? = some v → N[i]? = some xs → RowV w E v xs
theorem RowsV.same {w w' : World} {E : TypeId} {rs : List Value} {N : List (List Value)} (h : RowsV w E rs N) (hk : ∀ v xs, RowV w E v xs → RowV w' E v xs) : RowsV w' E rs N :=
  ⟨h.1, fun i v xs h1 h2 => hk v xs (h.2 i v xs h1 h2)⟩
theorem RowsV.add {w : World} {E : TypeId} {rs : List Value} {N : List (List Value)} {v : Value} {xs : List Value} (h : RowsV w E rs N) (hv : RowV w E v xs) : RowsV w E (rs ++ [v]) (N ++ [xs]) := by
  refine ⟨by simp [h.1], fun i u ys h1 h2 => ?_⟩
  by_cases hi : i < rs.length
  · rw [List.getElem?_append_left hi] at h1
    rw [List.getElem?_append_left (by rw [← h.1]; exact hi)] at h2
    exact h.2 i u ys h1 h2
  · rw [List.getElem?_append_right (by omega)] at h1
    rw [List.getElem?_append_right (by rw [← h.1]; omega), ← h.1] at h2
    by_cases e : i - rs.length = 0
    · rw [e] at h1 h2; simp at h1 h2; subst h1; subst h2; exact hv
    · rw [List.getElem?_eq_none (by simp; omega)] at h1; cases h1

/-- what table() has made so far: the pair (tN, tO) lies in block T; vN and vO are the slices of rows, behind the appends -/
structure TabM (B : Nat) (w : World) (T : Nat) (tN tO vN vO : Value) (rN rO : List Value) (N O : List (List Value)) (v5 : Value) (x5 : List Value) (v6 : Value) (x6 : List Value) : Prop where
  bs : B ≤ w.heap.size
  blk : Blk w T [tN, tO] 83
  oN : w.ownsRow B 31 1 vN rN.length rN
  oO : w.ownsRow B 31 1 vO rO.length rO
  ne : vN.ownBlock = none ∨ vN.ownBlock ≠ vO.ownBlock
  rowsN : RowsV w 2 rN N
  rowsO : RowsV w 2 rO O
  r5 : RowV w 2 v5 x5
  r6 : RowV w 2 v6 x6
section
variable {B : Nat} {w w' : World} {T : Nat} {tN tO vN vO : Value} {rN rO : List Value} {N O : List (List Value)} {v5 v6 : Value} {x5 x6 : List Value}
theorem TabM.keep (h : TabM B w T tN tO vN vO rN rO N O v5 x5 v6 x6) (hb : Below w.heap.size w w') : TabM B w' T tN tO vN vO rN rO N O v5 x5 v6 x6 := by
  have hg : w.grownBy w' none := ⟨hb.os, hb.tape, hb.output, hb.size, fun k hk _ => hb.block k hk⟩
  exact ⟨Nat.le_trans h.bs hb.size, h.blk.keep hb, h.oN.kept hg (by by_cases e : vN.ownBlock = none <;> simp [e]), h.oO.kept hg (by by_cases e : vO.ownBlock = none <;> simp [e]), h.ne,
    h.rowsN.same fun _ _ h => h.keep hb, h.rowsO.same fun _ _ h => h.keep hb, h.r5.keep hb, h.r6.keep hb⟩
theorem TabM.alloc (h : TabM B w T tN tO vN vO rN rO N O v5 x5 v6 x6) (o : Obj) : TabM B (w.alloc o) T tN tO vN vO rN rO N O v5 x5 v6 x6 :=
  h.keep ((Below.refl _ w).alloc (Nat.le_refl _) o)
theorem TabM.drew (h : TabM B w T tN tO vN vO rN rO N O v5 x5 v6 x6) : TabM B w.drew T tN tO vN vO rN rO N O v5 x5 v6 x6 := ⟨h.bs, h.blk, h.oN, h.oO, h.ne, h.rowsN.same fun _ _ h => h.same fun _ _ h => h, h.rowsO.same fun _ _ h => h.same fun _ _ h => h, h.r5.same fun _ _ h => h, h.r6.same fun _ _ h => h⟩
theorem TabM.appN (h : TabM B w T tN tO vN vO rN rO N O v5 x5 v6 x6) {v : Value} {g cap : Nat} (hv : v = .slice (some ⟨g, 0, none⟩) (rN.length + 1) cap)
    (ho : w'.ownsRow B 31 1 v (rN.length + 1) (rN ++ [v5])) (hg : w.grownBy w' vN.ownBlock) (hl : vN.ownBlock = some g ∨ g = w.heap.size) :
    TabM B w' T tN tO v vO (rN ++ [v5]) rO (N ++ [x5]) O v5 x5 v6 x6 := by
  have r5' := h.r5.grown hg h.oN (by decide)
  refine ⟨Nat.le_trans h.bs hg.size, h.blk.grown hg h.oN (by decide), by simpa using ho, h.oO.kept hg ?_, ?_, (h.rowsN.same fun _ _ h' => h'.grown hg h.oN (by decide)).add r5', h.rowsO.same fun _ _ h' => h'.grown hg h.oN (by decide), r5', h.r6.grown hg h.oN (by decide)⟩
  · rcases h.ne with e | e
    · rw [e]; by_cases e' : vO.ownBlock = none <;> simp [e']
    · exact .inr (Ne.symm e)
  · right
    subst hv
    intro e
    simp only [Value.ownBlock] at e
    rcases hl with hl | hl
    · rcases h.ne with e' | e'
      · rw [e'] at hl; cases hl
      · rw [hl] at e'; exact e' e
    · have := (h.oO.lt g e.symm).2; omega
theorem TabM.appO (h : TabM B w T tN tO vN vO rN rO N O v5 x5 v6 x6) {v : Value} {g cap : Nat} (hv : v = .slice (some ⟨g, 0, none⟩) (rO.length + 1) cap)
    (ho : w'.ownsRow B 31 1 v (rO.length + 1) (rO ++ [v6])) (hg : w.grownBy w' vO.ownBlock) (hl : vO.ownBlock = some g ∨ g = w.heap.size) :
    TabM B w' T tN tO vN v rN (rO ++ [v6]) N (O ++ [x6]) v5 x5 v6 x6 := by
  have r6' := h.r6.grown hg h.oO (by decide)
  refine ⟨Nat.le_trans h.bs hg.size, h.blk.grown hg h.oO (by decide), h.oN.kept hg h.ne, by simpa using ho, ?_, h.rowsN.same fun _ _ h' => h'.grown hg h.oO (by decide), (h.rowsO.same fun _ _ h' => h'.grown hg h.oO (by decide)).add r6', h.r5.grown hg h.oO (by decide), r6'⟩
  subst hv
  by_cases e0 : vN.ownBlock = none
  · exact .inl e0
  · right
    intro e
    simp only [Value.ownBlock] at e
    rcases hl with hl | hl
    · rcases h.ne with e' | e'
      · exact e0 e'
      · rw [hl] at e'; exact e' e
    · have := (h.oN.lt g e).2; omega
/-- the stores at the end -/
theorem TabM.store (h : TabM B w T tN tO vN vO rN rO N O v5 x5 v6 x6) : TabM B ((w.setCell ⟨T, 0, none⟩ vN).setCell ⟨T, 1, none⟩ vO) T vN vO vN vO rN rO N O v5 x5 v6 x6 := by
  have hs : ∀ (w : World) (i : Nat) (u : Value) (cs : List Value), Blk w T cs 83 → ∀ (E : TypeId), E ≠ 83 → ∀ (g : Nat) (cur : Array Value), w.heap[g]? = some (.cells cur E (0, 0)) → (w.setCell ⟨T, i, none⟩ u).heap[g]? = some (.cells cur E (0, 0)) := by
    intro w i u cs hb E hE g cur hg
    rw [heap_setCell_other w ⟨T, i, none⟩ g u (fun e => ?_)]; exact hg
    simp only at e
    subst e
    have := hg.symm.trans hb
    simp at this
    exact hE this.2
  have h1 := h.blk.setCell 0 vN
  have h2 := h1.setCell 1 vO
  have go : ∀ (E : TypeId), E ≠ 83 → ∀ (g : Nat) (cur : Array Value), w.heap[g]? = some (.cells cur E (0, 0)) → ((w.setCell ⟨T, 0, none⟩ vN).setCell ⟨T, 1, none⟩ vO).heap[g]? = some (.cells cur E (0, 0)) :=
    fun E hE g cur hg => hs _ 1 vO _ h1 E hE g cur (hs _ 0 vN _ h.blk E hE g cur hg)
  have own : ∀ {v : Value} {n : Nat} {xs : List Value}, w.ownsRow B 31 1 v n xs → ((w.setCell ⟨T, 0, none⟩ vN).setCell ⟨T, 1, none⟩ vO).ownsRow B 31 1 v n xs := fun ho => by
    refine ⟨ho.1, ?_⟩
    rcases ho.2 with hn | ⟨g, cap, cur, hv, hb, hg, rest⟩
    · exact .inl hn
    · exact .inr ⟨g, cap, cur, hv, hb, go _ (by decide) g cur hg, rest⟩
  refine ⟨?_, ?_, own h.oN, own h.oO, h.ne, h.rowsN.same fun _ _ h' => h'.same (go _ (by decide)), h.rowsO.same fun _ _ h' => h'.same (go _ (by decide)), h.r5.same (go _ (by decide)), h.r6.same (go _ (by decide))⟩
  · have := h.bs; simpa [World.setCell] using this
  · simpa using h2
end
/-- the block of an element to be appended, apart from both slices -/
def TmpB (w : World) (t : Nat) (v vN vO : Value) : Prop := Blk w t [v] 31 ∧ vN.ownBlock ≠ some t ∧ vO.ownBlock ≠ some t
section
variable {B : Nat} {w w' : World} {T t g cap n : Nat} {tN tO vN vO v u : Value} {rN rO : List Value} {N O : List (List Value)} {v5 v6 : Value} {x5 x6 : List Value}
theorem TabM.tmp (h : TabM B w T tN tO vN vO rN rO N O v5 x5 v6 x6) (v : Value) : TmpB (w.alloc (.cells #[v] 31)) w.heap.size v vN vO :=
  ⟨Blk.new w #[v] _, fun e => by have := (h.oN.lt _ e).2; omega, fun e => by have := (h.oO.lt _ e).2; omega⟩
theorem TmpB.alloc (h : TmpB w t v vN vO) (o : Obj) : TmpB (w.alloc o) t v vN vO := ⟨h.1.alloc o, h.2⟩
theorem TmpB.appN (h : TmpB w t v vN vO) (hg : w.grownBy w' vN.ownBlock) (hl : vN.ownBlock = some g ∨ g = w.heap.size) : TmpB w' t v (.slice (some ⟨g, 0, none⟩) n cap) vO := by
  refine ⟨(hg.block t h.1.lt (fun e => h.2.1 e.symm)).trans h.1, fun e => ?_, h.2.2⟩
  simp only [Value.ownBlock] at e
  rcases hl with hl | hl
  · exact h.2.1 (hl.trans e)
  · have := h.1.lt; simp at e; omega
theorem TmpB.news (h : TmpB w t v vN vO) : ∀ j u, [v][j]? = some u → w.cell? ((⟨t, 0, none⟩ : Addr).add j) = some u := by
  intro j u hj
  match j, hj with
  | 0, hj => simp at hj; subst hj; simpa [Addr.add] using h.1.cell' (i := 0) rfl
theorem TabM.belN (h : TabM B w T tN tO vN vO rN rO N O v5 x5 v6 x6) {w0 : World} (hb : Below B w0 w) (hg : w.grownBy w' vN.ownBlock) : Below B w0 w' := hb.grown hg h.bs fun k hk => (h.oN.lt k hk).1
theorem TabM.belO (h : TabM B w T tN tO vN vO rN rO N O v5 x5 v6 x6) {w0 : World} (hb : Below B w0 w) (hg : w.grownBy w' vO.ownBlock) : Below B w0 w' := hb.grown hg h.bs fun k hk => (h.oO.lt k hk).1
end
/-- a table, whole: two slices of rows under one pointer -/
def Tab (B : Nat) (w : World) (T : Nat) (N O : List (List Value)) : Prop := ∃ vN vO rN rO, B ≤ w.heap.size ∧ Blk w T [vN, vO] 83 ∧ w.ownsRow B 31 1 vN rN.length rN ∧ w.ownsRow B 31 1 vO rO.length rO ∧
  (vN.ownBlock = none ∨ vN.ownBlock ≠ vO.ownBlock) ∧ RowsV w 2 rN N ∧ RowsV w 2 rO O
theorem Tab.keep {B : Nat} {w w' : World} {T : Nat} {N O : List (List Value)} (h : Tab B w T N O) (hb : Below w.heap.size w w') : Tab B w' T N O := by
  obtain ⟨vN, vO, rN, rO, h1, h2, h3, h4, h5, h6, h7⟩ := h
  have hg : w.grownBy w' none := ⟨hb.os, hb.tape, hb.output, hb.size, fun k hk _ => hb.block k hk⟩
  exact ⟨vN, vO, rN, rO, Nat.le_trans h1 hb.size, h2.keep hb, h3.kept hg (by by_cases e : vN.ownBlock = none <;> simp [e]), h4.kept hg (by by_cases e : vO.ownBlock = none <;> simp [e]), h5,
    h6.same fun _ _ h => h.keep hb, h7.same fun _ _ h => h.keep hb⟩
theorem TabM.tab {B : Nat} {w : World} {T : Nat} {vN vO : Value} {rN rO : List Value} {N O : List (List Value)} {v5 v6 : Value} {x5 x6 : List Value} (h : TabM B w T vN vO vN vO rN rO N O v5 x5 v6 x6) : Tab B w T N O :=
  ⟨vN, vO, rN, rO, h.bs, h.blk, h.oN, h.oO, h.ne, h.rowsN, h.rowsO⟩
theorem Tab.more {B : Nat} {w w' : World} {T : Nat} {N O : List (List Value)} (h : Tab B w T N O) (hb : Below w.heap.size w w') {v5 v6 : Value} {x5 x6 : List Value} (h5 : RowV w' 2 v5 x5) (h6 : RowV w' 2 v6 x6) :
    ∃ vN vO rN rO, TabM B w' T vN vO vN vO rN rO N O v5 x5 v6 x6 := by
  obtain ⟨vN, vO, rN, rO, h1, h2, h3, h4, h5', h6', h7⟩ := h.keep hb
  exact ⟨vN, vO, rN, rO, h1, h2, h3, h4, h5', h6', h7, h5, h6⟩
theorem Tab.start {B : Nat} {w : World} {T : Nat} (h : Blk w T [.slice none 0 0, .slice none 0 0] 83) (hB : B ≤ w.heap.size) : Tab B w T [] [] :=
  ⟨_, _, [], [], hB, h, World.ownsRow_nil _ _ _ _, World.ownsRow_nil _ _ _ _, .inl rfl, ⟨rfl, fun i v xs h => by simp at h⟩, ⟨rfl, fun i v xs h => by simp at h⟩⟩
end Go.Proofs.Ythgkkaifdlkciaa

/- What the laws ask of a result that is a slice of numbers. -/
namespace Go.Proofs.Ythgkkaifdlkciaa
open Go.RowKit
set_option linter.unusedVariables false
set_option linter.unusedSimpArgs false

/-- v is a slice of the numbers xs, in memory from B on that is its own -/
def OwnI (w : World) (B : Nat) (v : Value) (xs : List Int) : Prop := w.ownsRow B 2 1 v xs.length (i64s xs)
theorem OwnI.below {w w' : World} {B : Nat} {v : Value} {xs : List Int} (h : OwnI w B v xs) (hb : Below w.heap.size w w') : OwnI w' B v xs := by
  have hg : w.grownBy w' none := ⟨hb.os, hb.tape, hb.output, hb.size, fun k hk _ => hb.block k hk⟩
  exact World.ownsRow.kept h hg (by by_cases e : v.ownBlock = none <;> simp [e])
theorem OwnI.keep {w w' : World} {B C : Nat} {v : Value} {xs : List Int} (h : OwnI w B v xs) (hb : Below C w w') (hC : ∀ k, v.ownBlock = some k → k < C) : OwnI w' B v xs := by
  refine ⟨h.1, ?_⟩
  rcases h.2 with hn | ⟨g, cap, cur, rfl, h1, h2, rest⟩
  · exact .inl hn
  · exact .inr ⟨g, cap, cur, rfl, h1, (hb.block g (hC g rfl)).trans h2, rest⟩
theorem OwnI.less {w : World} {B C : Nat} {v : Value} {xs : List Int} (h : OwnI w B v xs) (hC : C ≤ B) : OwnI w C v xs := by
  refine ⟨h.1, ?_⟩
  rcases h.2 with hn | ⟨g, cap, cur, hv, h1, rest⟩
  · exact .inl hn
  · exact .inr ⟨g, cap, cur, hv, by omega, rest⟩
/-- its form -/
theorem OwnI.form {w : World} {B : Nat} {v : Value} {xs : List Int} (h : OwnI w B v xs) : ∃ a c, v = .slice a xs.length c ∧ IntsAt w a xs := by
  rcases h.2 with ⟨rfl, h0⟩ | ⟨g, cap, cur, rfl, h1, hg, h2, h3, h4, h5⟩
  · exact ⟨none, 0, by rw [h0], fun i hi => by omega⟩
  · refine ⟨some ⟨g, 0, none⟩, cap, rfl, fun i hi => ⟨g, 0, rfl, ?_⟩⟩
    rw [Nat.zero_add]
    have := World.ownsRow.cellAt h i (by omega)
    rw [this, i64s_get hi]

def marks (k n : Nat) : List Int := (List.range n).map fun i => ((k + i : Nat) : Int)
theorem marks_length (k n : Nat) : (marks k n).length = n := by simp [marks]

set_option maxHeartbeats 1000000 in
theorem eqI_any (a b : Option Addr) (c d : Nat) (xs ys : List Int) (hx : xs.length ≤ 2000000) (w : World) (ha : IntsAt w a xs) (hb : IntsAt w b ys) :
    Calls Try.prog 13 #[.slice a xs.length c, .slice b ys.length d] w (Ret (.bool (decide (xs = ys))) w) := by
  have HA := Lib.hid ha
  have HB := Lib.hid hb
  clear ha hb
  go_enter Try.func13, Try.ntmps13
  by_cases hl : xs.length = ys.length
  · have hle : ((xs.length : Int) == (ys.length : Int)) = true := by simp; omega
    have hln : ((xs.length : Int) != (ys.length : Int)) = false := by simp; omega
    go_wp2
    go_loopw [5] (fun i wr => ∃ k : Nat, k ≤ xs.length ∧ i = .int .i64 k ∧ Below w.heap.size w wr ∧ Hid (∀ j, j < k → xs[j]? = ys[j]?)) (fun i _ => xs.length - (intOf i).toNat)
    case atStart => exact ⟨0, Nat.zero_le _, rfl, Below.refl _ _, fun j hj => by omega⟩
    case round =>
      obtain ⟨k, hk, rfl, hb, HE⟩ := hrel
      by_cases hlt : k < xs.length
      · obtain ⟨g, off, rfl, hc⟩ := HA.out k hlt
        obtain ⟨g', off', rfl, hc'⟩ := HB.out k (by omega)
        rw [← hb.cell (p := ⟨g, off + k, none⟩) (World.block_lt_of_cell? w _ hc)] at hc
        rw [← hb.cell (p := ⟨g', off' + k, none⟩) (World.block_lt_of_cell? w _ hc')] at hc'
        have i1 : (0 : Int) ≤ (k : Int) := by omega
        have i2 : (k : Int) < (xs.length : Int) := by omega
        have i3 : (k : Int) < (ys.length : Int) := by omega
        have i4 : k < ys.length := by omega
        obtain ⟨x, hx⟩ : ∃ x, x = xs[k]?.getD 0 := ⟨_, rfl⟩
        obtain ⟨y, hy⟩ : ∃ y, y = ys[k]?.getD 0 := ⟨_, rfl⟩
        rw [← hx] at hc
        rw [← hy] at hc'
        by_cases e : x = y
        · have HN : Hid (∀ j, j < k + 1 → xs[j]? = ys[j]?) := fun j hj => by
            by_cases h : j = k
            · subst h
              rw [List.getElem?_eq_getElem hlt, List.getElem?_eq_getElem i4] at *
              simp only [Option.getD_some] at hx hy
              rw [← hx, ← hy, e]
            · exact HE.out j (by omega)
          subst e
          clear hx hy
          go_wp2
          go_quiet (fail)
          go_wp2
          go_roundw
          case rel => exact ⟨k + 1, by omega, by go_num, below_dN hb _, HN⟩
          case measure => simp [intOf]; omega
        · have H : Hid (decide (xs = ys) = false) := by
            show _ = _
            simp only [decide_eq_false_iff_not]; intro h; rw [h] at hx; exact e (hx.trans hy.symm)
          have e' : (x != y) = true := by simpa using e
          clear e hx hy
          go_wp2
          go_quiet (fail)
          go_wp2
          go_ret
          exact ⟨ret_bool H.out.symm, below_dN hb _⟩
      · have H : Hid (decide (xs = ys) = true) := by
          show _ = _
          simp only [decide_eq_true_eq]
          apply List.ext_getElem?
          intro j
          by_cases hj : j < k
          · exact HE.out j hj
          · rw [List.getElem?_eq_none (by omega), List.getElem?_eq_none (by omega)]
        go_wp2
        go_ret
        exact ⟨ret_bool H.out.symm, hb⟩
  · have H : Hid (decide (xs = ys) = false) := by
      show _ = _
      simp only [decide_eq_false_iff_not]; intro e; rw [e] at hl; exact hl rfl
    have hle : ((xs.length : Int) == (ys.length : Int)) = false := by simp; omega
    have hln : ((xs.length : Int) != (ys.length : Int)) = true := by simp; omega
    clear hl
    go_wp2_with fail
    go_ret
    exact ⟨ret_bool H.out.symm, Below.refl _ _⟩

theorem eqI_same (a b : Option Addr) (c d : Nat) (xs : List Int) (hx : xs.length ≤ 2000000) (w : World) (ha : IntsAt w a xs) (hb : IntsAt w b xs) :
    Calls Try.prog 13 #[.slice a xs.length c, .slice b xs.length d] w (Ret (.bool true) w) := by
  have := eqI_any a b c d xs xs hx w ha hb
  rwa [show decide (xs = xs) = true from by simp] at this

/-- i numbers marked, from k on; the rest as it was -/
def mixM (k i : Nat) (xs : List Int) : List Int := marks k i ++ xs.drop i
theorem mixM_length (k i : Nat) (xs : List Int) (h : i ≤ xs.length) : (mixM k i xs).length = xs.length := by simp [mixM, marks_length]; omega
theorem mixM_succ (k i : Nat) (xs : List Int) (h : i < xs.length) : (i64s (mixM k i xs)).set i (.int .i64 ((k + i : Nat) : Int)) = i64s (mixM k (i + 1) xs) := by
  have e : marks k (i + 1) = marks k i ++ [((k + i : Nat) : Int)] := by simp [marks, List.range_succ]
  simp only [mixM, i64s, e, List.map_append]
  rw [List.set_append_right _ _ (by simp [marks_length]), List.append_assoc]
  congr 1
  rw [show i - ((marks k i).map (Value.int .i64)).length = 0 by simp [marks_length], List.drop_eq_getElem_cons h, List.map_cons, List.set_cons_zero]
  rfl
theorem mixM_all (k : Nat) (xs : List Int) : mixM k xs.length xs = marks k xs.length := by simp [mixM]
theorem marks_get {k n i : Nat} (h : i < n) : (marks k n)[i]?.getD 0 = ((k + i : Nat) : Int) := by simp [marks, h]

set_option maxHeartbeats 1000000 in
theorem markI_any (B : Nat) (v : Value) (xs : List Int) (k : Nat) (hx : xs.length ≤ 1000000) (hk : k ≤ 1000000) (w : World) (hB : B ≤ w.heap.size) (h : OwnI w B v xs) :
    Calls Try.prog 14 #[v, .int .i64 (k : Int)] w fun e w' => e = .returned (.int .i64 ((k + xs.length : Nat) : Int)) ∧ Below B w w' ∧ OwnI w' B v (marks k xs.length) := by
  obtain ⟨a, c, rfl, -⟩ := h.form
  have H0 : Hid (OwnI w B (.slice a xs.length c) (mixM k 0 xs)) := by
    show OwnI _ _ _ _
    simpa [mixM, marks] using h
  clear h
  go_enter Try.func14, Try.ntmps14
  go_wp2
  go_loopw [1, 5] (fun u i wr => ∃ j : Nat, j ≤ xs.length ∧ i = .int .i64 j ∧ u = .int .i64 ((k + j : Nat) : Int) ∧ Below B w wr ∧ Hid (OwnI wr B (.slice a xs.length c) (mixM k j xs))) (fun _ i _ => xs.length - (intOf i).toNat)
  case atStart => exact ⟨0, Nat.zero_le _, rfl, rfl, Below.refl _ _, H0⟩
  case round =>
    clear H0
    obtain ⟨j, hj, rfl, rfl, hb, HO⟩ := hrel
    by_cases hlt : j < xs.length
    · have hO := HO.out
      have hlen := mixM_length k j xs hj
      obtain ⟨g, rfl, hgB⟩ : ∃ g, a = some ⟨g, 0, none⟩ ∧ B ≤ g := by
        rcases hO.2 with ⟨_, e⟩ | ⟨g, cap, cur, hv, h1, rest⟩
        · omega
        · simp at hv; exact ⟨g, hv.1, h1⟩
      have hO' : wr.ownsRow B 2 1 (.slice (some ⟨g, 0, none⟩) xs.length c) xs.length (i64s (mixM k j xs)) := by
        have := hO; rw [OwnI, hlen] at this; exact this
      have hcell := hO'.cellAt j (by omega)
      rw [i64s_get (by omega)] at hcell
      have hfz := hO'.frozenAt j
      have hset : Hid (OwnI (wr.setCell ⟨g, j, none⟩ (.int .i64 ((k + j : Nat) : Int))) B (.slice (some ⟨g, 0, none⟩) xs.length c) (mixM k (j + 1) xs)) := by
        have := (hO'.stored j (.int .i64 ((k + j : Nat) : Int))).1
        rw [mixM_succ k j xs hlt] at this
        show World.ownsRow _ _ _ _ _ _ _
        rw [mixM_length k (j + 1) xs hlt]
        exact this
      have hb' := hb.setCell (p := ⟨g, j, none⟩) hgB (.int .i64 ((k + j : Nat) : Int))
      have i1 : (0 : Int) ≤ (j : Int) := by omega
      have i2 : (j : Int) < (xs.length : Int) := by omega
      obtain ⟨z, hz⟩ : ∃ z, (mixM k j xs)[j]?.getD 0 = z := ⟨_, rfl⟩
      rw [hz] at hcell
      clear hz hO hO' hlen
      go_wp2
      go_roundw
      case rel => exact ⟨j + 1, by omega, by go_num, by go_num, hb', hset⟩
      case measure => simp [intOf]; omega
    · have hj' : j = xs.length := by omega
      subst hj'
      rw [mixM_all] at HO
      go_wp2
      go_ret
      exact ⟨rfl, hb, HO.out⟩

set_option maxHeartbeats 1000000 in
theorem heldI_any (B : Nat) (v : Value) (k n : Nat) (hx : n ≤ 1000000) (hk : k ≤ 1000000) (w : World) (h : OwnI w B v (marks k n)) :
    Calls Try.prog 15 #[v, .int .i64 (k : Int)] w (Ret (.int .i64 ((k + n : Nat) : Int)) w) := by
  obtain ⟨a, c, rfl, hI⟩ := h.form
  rw [marks_length]
  have HI := Lib.hid hI
  clear h hI
  go_enter Try.func15, Try.ntmps15
  go_wp2
  go_loopw [1, 5] (fun u i wr => ∃ j : Nat, j ≤ n ∧ i = .int .i64 j ∧ u = .int .i64 ((k + j : Nat) : Int) ∧ Below w.heap.size w wr) (fun _ i _ => n - (intOf i).toNat)
  case atStart => exact ⟨0, Nat.zero_le _, rfl, rfl, Below.refl _ _⟩
  case round =>
    obtain ⟨j, hj, rfl, rfl, hb⟩ := hrel
    by_cases hlt : j < n
    · obtain ⟨g, off, rfl, hc⟩ := HI.out j (by rw [marks_length]; exact hlt)
      rw [← hb.cell (p := ⟨g, off + j, none⟩) (World.block_lt_of_cell? w _ hc), marks_get hlt] at hc
      have i1 : (0 : Int) ≤ (j : Int) := by omega
      have i2 : (j : Int) < (n : Int) := by omega
      go_wp2
      go_roundw
      case rel => exact ⟨j + 1, by omega, by go_num, by go_num, hb⟩
      case measure => simp [intOf]; omega
    · have hj' : j = n := by omega
      subst hj'
      go_wp2
      go_ret
      exact ⟨rfl, hb⟩
end Go.Proofs.Ythgkkaifdlkciaa

/- Activities: no program in sight. -/
namespace Go.Proofs.Ythgkkaifdlkciaa
set_option linter.unusedVariables false
set_option linter.unusedSimpArgs false

def updN (f : Nat → Nat) (j v : Nat) : Nat → Nat := fun q => if q = j then v else f q
/-- x letters of state r done -/
def nxX (m : Mch) (now : Nat → Nat) (r : Nat) : Nat → (Nat → Nat) → Nat → Nat
  | 0, f => f
  | x + 1, f => updN (nxX m now r x f) (m.nn r x) (nxX m now r x f (m.nn r x) + now r)
/-- r states done, those that p lets in -/
def nxRow (m : Mch) (p : Nat → Bool) (now : Nat → Nat) : Nat → Nat → Nat
  | 0 => fun _ => 0
  | r + 1 => if p r then nxX m now r m.l (nxRow m p now r) else nxRow m p now r
def sumR (m : Mch) (now : Nat → Nat) : Nat → Nat
  | 0 => 0
  | r + 1 => sumR m now r + (if trivB m r then 0 else now r)
def nowS (m : Mch) (p : Nat → Bool) (q : Nat) : Nat → Nat → Nat
  | 0 => fun r => if r = q then 1 else 0
  | k + 1 => nxRow m p (nowS m p q k) m.s
/-- the states that are not trivial -/
def ntB (m : Mch) (r : Nat) : Bool := !trivB m r
def allB (r : Nat) : Bool := true
def acts (m : Mch) (q n : Nat) : List Int := (List.range n).map fun k => (sumR m (nowS m allB q k) m.s : Int)

/-- how often r goes on to t by its first x letters -/
def hits (m : Mch) (r t : Nat) : Nat → Nat
  | 0 => 0
  | x + 1 => hits m r t x + if m.nn r x = t then 1 else 0
theorem nxX_at (m : Mch) (now : Nat → Nat) (r t : Nat) (f : Nat → Nat) : ∀ x, nxX m now r x f t = f t + now r * hits m r t x
  | 0 => by simp [nxX, hits]
  | x + 1 => by
    simp only [nxX, updN, hits]
    by_cases h : t = m.nn r x
    · rw [if_pos h, if_pos h.symm, ← h, nxX_at m now r t f x, Nat.mul_add, Nat.mul_one]; omega
    · rw [if_neg h, if_neg (Ne.symm h), nxX_at m now r t f x]; simp
def inflow (m : Mch) (p : Nat → Bool) (now : Nat → Nat) (t : Nat) : Nat → Nat
  | 0 => 0
  | r + 1 => inflow m p now t r + if p r then now r * hits m r t m.l else 0
theorem nxRow_at (m : Mch) (p : Nat → Bool) (now : Nat → Nat) (t : Nat) : ∀ r, nxRow m p now r t = inflow m p now t r
  | 0 => rfl
  | r + 1 => by
    simp only [nxRow, inflow]
    split
    · rw [nxX_at, nxRow_at m p now t r]
    · rw [nxRow_at m p now t r]; rfl
theorem hits_zero {m : Mch} {r t : Nat} : ∀ x, (∀ y, y < x → m.nn r y ≠ t) → hits m r t x = 0
  | 0, _ => rfl
  | x + 1, h => by simp only [hits]; rw [hits_zero x (fun y hy => h y (by omega)), if_neg (h x (by omega))]
theorem nowS_eq {m : Mch} (hok : m.Ok) (hwf : m.Wf) (q : Nat) : ∀ k t, t < m.s → trivB m t = false → nowS m (ntB m) q k t = nowS m allB q k t
  | 0, _, _, _ => rfl
  | k + 1, t, ht, hn => by
    simp only [nowS, nxRow_at]
    have : ∀ r, r ≤ m.s → inflow m (ntB m) (nowS m (ntB m) q k) t r = inflow m allB (nowS m allB q k) t r := by
      intro r
      induction r with
      | zero => intro _; rfl
      | succ r ih =>
        intro hr
        simp only [inflow]
        rw [ih (by omega)]
        congr 1
        by_cases e : trivB m r = true
        · have hz : hits m r t m.l = 0 := hits_zero _ fun y hy h => by
            have h1 := ((trivB_iff hok hwf (by omega)).1 e).next hy
            rw [h] at h1
            rw [(trivB_iff hok hwf ht).2 h1] at hn; cases hn
          simp [ntB, allB, e, hz]
        · have e' : trivB m r = false := by simpa using e
          simp only [ntB, allB, e', Bool.not_false, if_true]
          rw [nowS_eq hok hwf q k r (by omega) e']
    exact this m.s (Nat.le_refl _)
theorem sumR_eq {m : Mch} {f g : Nat → Nat} (h : ∀ t, t < m.s → trivB m t = false → f t = g t) : ∀ r, r ≤ m.s → sumR m f r = sumR m g r
  | 0, _ => rfl
  | r + 1, hr => by
    simp only [sumR]
    rw [sumR_eq h r (by omega)]
    by_cases e : trivB m r = true
    · simp [e]
    · have e' : trivB m r = false := by simpa using e
      rw [h r (by omega) e']

/-! Bounds -/
def tot (f : Nat → Nat) : Nat → Nat
  | 0 => 0
  | r + 1 => tot f r + f r
theorem tot_upd (f : Nat → Nat) (j v : Nat) : ∀ n, j < n → tot (updN f j (f j + v)) n = tot f n + v
  | 0, h => by omega
  | n + 1, h => by
    simp only [tot]
    by_cases e : j = n
    · subst e
      have : ∀ i, i ≤ j → tot (updN f j (f j + v)) i = tot f i := by
        intro i; induction i with
        | zero => intro _; rfl
        | succ i ih => intro hi; simp only [tot]; rw [ih (by omega)]; congr 1; simp only [updN]; rw [if_neg (by omega)]
      rw [this j (Nat.le_refl _)]; simp [updN]; omega
    · rw [tot_upd f j v n (by omega)]
      have : updN f j (f j + v) n = f n := by simp only [updN]; rw [if_neg (by omega)]
      omega
theorem le_tot (f : Nat → Nat) : ∀ n t, t < n → f t ≤ tot f n
  | n + 1, t, h => by
    simp only [tot]
    by_cases e : t = n
    · subst e; omega
    · have := le_tot f n t (by omega); omega
theorem tot_nxX {m : Mch} (hok : m.Ok) (hwf : m.Wf) (now f : Nat → Nat) {r : Nat} (hr : r < m.s) : ∀ x, x ≤ m.l → tot (nxX m now r x f) m.s = tot f m.s + now r * x
  | 0, _ => by simp [nxX]
  | x + 1, hx => by
    simp only [nxX]
    rw [tot_upd _ _ _ _ (hok.nn_lt hwf hr (by omega)), tot_nxX hok hwf now f hr x (by omega), Nat.mul_add, Nat.mul_one]; omega
theorem tot_nxRow {m : Mch} (hok : m.Ok) (hwf : m.Wf) (p : Nat → Bool) (now : Nat → Nat) : ∀ r, r ≤ m.s → tot (nxRow m p now r) m.s ≤ m.l * tot now r
  | 0, _ => by
    have : ∀ n, tot (fun _ => 0) n = 0 := fun n => by induction n with | zero => rfl | succ n ih => simp [tot, ih]
    simp [nxRow, this, tot]
  | r + 1, hr => by
    have ih := tot_nxRow hok hwf p now r (by omega)
    simp only [nxRow, tot, Nat.mul_add]
    split
    · rw [tot_nxX hok hwf now _ (by omega) m.l (Nat.le_refl _), Nat.mul_comm (now r)]; omega
    · omega
theorem tot_mono (f : Nat → Nat) : ∀ n d, tot f n ≤ tot f (n + d)
  | n, 0 => Nat.le_refl _
  | n, d + 1 => by have := tot_mono f n d; rw [← Nat.add_assoc]; simp only [tot]; omega
theorem tot_nowS {m : Mch} (hok : m.Ok) (hwf : m.Wf) (p : Nat → Bool) {q : Nat} (hq : q < m.s) : ∀ k, tot (nowS m p q k) m.s ≤ 3 ^ k
  | 0 => by
    have : ∀ n, tot (fun r => if r = q then 1 else 0) n = if q < n then 1 else 0 := fun n => by
      induction n with
      | zero => rfl
      | succ n ih =>
        simp only [tot, ih]
        repeat' split
        all_goals omega
    simp only [nowS, this]; split <;> simp
  | k + 1 => by
    simp only [nowS, Nat.pow_succ]
    have h1 := tot_nxRow hok hwf p (nowS m p q k) m.s (Nat.le_refl _)
    have h2 := tot_nowS hok hwf p hq k
    have h3 := hok.l_le
    have := Nat.mul_le_mul h3 h2
    omega
theorem pow3 {k : Nat} (hk : k ≤ 21) : 3 ^ k ≤ 10460353203 := by
  have := Nat.pow_le_pow_right (n := 3) (by omega) hk
  simpa using this
theorem sumR_le (m : Mch) (now : Nat → Nat) : ∀ r, sumR m now r ≤ tot now r
  | 0 => Nat.le_refl _
  | r + 1 => by have := sumR_le m now r; simp only [sumR, tot]; split <;> omega
end Go.Proofs.Ythgkkaifdlkciaa
