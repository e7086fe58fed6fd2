/- The laws' copies and comparisons of machines. -/
import Derived.Test.YtmacnofkpdikiaaK
namespace Go.Proofs.Ytmacnofkpdikiaa
open Go.RowKit
set_option linter.unusedVariables false
set_option linter.unusedSimpArgs false

set_option maxHeartbeats 1000000 in
theorem toByteA3_any (x y z : Int) (w : World) :
    Calls Try.prog 107 #[.agg #[.int .u8 x, .int .u8 y, .int .u8 z]] w (Ret (.agg #[.int .u8 x, .int .u8 y, .int .u8 z]) w) := by
  go_enter Try.func107, Try.ntmps107
  go_wp2
  refine wp_loop_rounds 4 ?_
  rw [rounds_succ]
  go_wp2
  rw [rounds_succ]
  go_wp2
  rw [rounds_succ]
  go_wp2
  rw [rounds_succ]
  go_wp2
  exact bodyPost_ret (v := .agg #[.int .u8 x, .int .u8 y, .int .u8 z]) (by simp [results, Try.results107, go_sem]) rfl ⟨rfl, (((Below.refl _ _).alloc (Nat.le_refl _) _).alloc (by simp) _).alloc (by simp; omega) _⟩

def pad (xs : List Int) (k : Nat) : List Int := xs.take (k * 3) ++ List.replicate (48 - k * 3) 0
theorem pad_length {xs : List Int} {k : Nat} (h : xs.length = 48) (hk : k ≤ 16) : (pad xs k).length = 48 := by simp [pad, h]; omega
theorem pad_step {xs : List Int} {k : Nat} (h : xs.length = 48) (hk : k < 16) :
    (((u8s (pad xs k)).set (k * 3) (.int .u8 (xs[k * 3]?.getD 0))).set (k * 3 + 1) (.int .u8 (xs[k * 3 + 1]?.getD 0))).set (k * 3 + 2) (.int .u8 (xs[k * 3 + 2]?.getD 0)) = u8s (pad xs (k + 1)) := by
  apply List.ext_getElem?
  intro i
  have hl : (u8s (pad xs k)).length = 48 := by simp [u8s, pad_length h (by omega : k ≤ 16)]
  have hl' : (u8s (pad xs (k + 1))).length = 48 := by simp [u8s, pad_length h (by omega : k + 1 ≤ 16)]
  by_cases hi : i < 48
  · have e' : (u8s (pad xs (k + 1)))[i]? = some (.int .u8 (if i < (k + 1) * 3 then xs[i]?.getD 0 else 0)) := by
      rw [u8s_get (by rw [pad_length h (by omega : k + 1 ≤ 16)]; exact hi)]
      congr 2
      simp only [pad]
      by_cases c : i < (k + 1) * 3
      · rw [if_pos c, List.getElem?_append_left (by simp; omega), List.getElem?_take, if_pos c]
      · rw [if_neg c, List.getElem?_append_right (by simp; omega), List.getElem?_replicate]
        split <;> rfl
    have e0 : (u8s (pad xs k))[i]? = some (.int .u8 (if i < k * 3 then xs[i]?.getD 0 else 0)) := by
      rw [u8s_get (by rw [pad_length h (by omega : k ≤ 16)]; exact hi)]
      congr 2
      simp only [pad]
      by_cases c : i < k * 3
      · rw [if_pos c, List.getElem?_append_left (by simp; omega), List.getElem?_take, if_pos c]
      · rw [if_neg c, List.getElem?_append_right (by simp; omega), List.getElem?_replicate]
        split <;> rfl
    rw [e']
    by_cases c2 : i = k * 3 + 2
    · subst c2; rw [List.getElem?_set_self (by simp [hl]; omega), if_pos (by omega)]
    · rw [List.getElem?_set_ne (by omega)]
      by_cases c1 : i = k * 3 + 1
      · subst c1; rw [List.getElem?_set_self (by simp [hl]; omega), if_pos (by omega)]
      · rw [List.getElem?_set_ne (by omega)]
        by_cases c0 : i = k * 3
        · subst c0; rw [List.getElem?_set_self (by simp [hl]; omega), if_pos (by omega)]
        · rw [List.getElem?_set_ne (by omega), e0]
          congr 2
          by_cases c : i < k * 3
          · rw [if_pos c, if_pos (by omega)]
          · rw [if_neg c, if_neg (by omega)]
  · rw [List.getElem?_eq_none (by simp [hl]; omega), List.getElem?_eq_none (by rw [hl']; omega)]

set_option maxHeartbeats 2000000 in
theorem toByteA3A16_any (xs : List Int) (hx : xs.length = 48) (w : World) :
    Calls Try.prog 74 #[.agg (u8s xs).toArray] w (Ret (.agg (u8s xs).toArray) w) := by
  have HX := Lib.hid hx
  clear hx
  go_enter Try.func74, Try.ntmps74
  go_wp2
  obtain ⟨n, hn⟩ : ∃ n, n = w.heap.size := ⟨_, rfl⟩
  rw [← hn]
  have HN := Lib.hid hn
  clear hn
  go_loopw [4] (fun i wr => ∃ k : Nat, k ≤ 16 ∧ i = .int .i64 k ∧ Blk wr n (u8s xs) 36 ∧ Blk wr (n + 1) (u8s (List.replicate 48 0)) 36 ∧ Blk wr (n + 1 + 1) (u8s (pad xs k)) 36 ∧ Below n w wr) (fun i _ => 16 - (intOf i).toNat)
  case atStart =>
    have e1 : (n + 1) = (w.alloc (.cells (u8s xs).toArray 36)).heap.size := by rw [HN.out]; simp
    refine ⟨0, by omega, rfl, ?_, ?_, ?_, ?_⟩
    · rw [HN.out]; exact ((Blk.new w _ _).alloc _).alloc _
    · have := (Blk.new (w.alloc (.cells (u8s xs).toArray 36)) (u8s (List.replicate 48 0)).toArray 36).alloc (.cells (u8s (List.replicate 48 0)).toArray 36)
      rw [← e1] at this
      exact this
    · have := Blk.new ((w.alloc (.cells (u8s xs).toArray 36)).alloc (.cells (u8s (List.replicate 48 0)).toArray 36)) (u8s (List.replicate 48 0)).toArray 36
      rw [show ((w.alloc (.cells (u8s xs).toArray 36)).alloc (.cells (u8s (List.replicate 48 0)).toArray 36)).heap.size = n + 1 + 1 by rw [HN.out]; simp] at this
      exact this
    · rw [HN.out]; exact (((Below.refl _ _).alloc (Nat.le_refl _) _).alloc (by simp) _).alloc (by simp; omega) _
  case round =>
    obtain ⟨k, hk, rfl, hA, hR, hB, hb⟩ := hrel
    by_cases hlt : k < 16
    · have hx := HX.out
      have a0 := hA.cell' (u8s_get (i := k * 3) (by omega))
      have a1 := hA.cell' (u8s_get (i := k * 3 + 1) (by omega))
      have a2 := hA.cell' (u8s_get (i := k * 3 + 2) (by omega))
      have hp : (pad xs k).length = 48 := pad_length hx hk
      have b0 := hB.cell' (u8s_get (i := k * 3) (by omega))
      have b1 := hB.cell' (u8s_get (i := k * 3 + 1) (by omega))
      have b2 := hB.cell' (u8s_get (i := k * 3 + 2) (by omega))
      have f0 := hB.free (k * 3)
      have f1 := hB.free (k * 3 + 1)
      have f2 := hB.free (k * 3 + 2)
      have HP := Lib.hid (pad_step hx hlt)
      clear hx hp
      obtain ⟨x0, e0⟩ : ∃ x, x = xs[k * 3]?.getD 0 := ⟨_, rfl⟩
      obtain ⟨x1, e1⟩ : ∃ x, x = xs[k * 3 + 1]?.getD 0 := ⟨_, rfl⟩
      obtain ⟨x2, e2⟩ : ∃ x, x = xs[k * 3 + 2]?.getD 0 := ⟨_, rfl⟩
      rw [← e0] at a0 HP
      rw [← e1] at a1 HP
      rw [← e2] at a2 HP
      clear e0 e1 e2
      have i1 : (k : Int) < 16 := by omega
      have i2 : (0 : Int) ≤ (k : Int) := by omega
      go_wp2_with fail
      refine (toByteA3_any _ _ _ _).mono ?_
      rintro e w1 ⟨rfl, hb1⟩
      have hA1 := hA.keep hb1
      have hR1 := hR.keep hb1
      have hB1 := hB.keep hb1
      have hbb := hb.trans (hb1.mono (Nat.le_of_lt (Nat.lt_of_lt_of_le (by omega : n < n + 1 + 1 + 1) (by have := hB.lt; omega))))
      have b0' := (hb1.cell (p := ⟨n + 1 + 1, k * 3, none⟩) hB.lt).trans b0
      have b1' := (hb1.cell (p := ⟨n + 1 + 1, k * 3 + 1, none⟩) hB.lt).trans b1
      have b2' := (hb1.cell (p := ⟨n + 1 + 1, k * 3 + 2, none⟩) hB.lt).trans b2
      have f0' := hB1.free (k * 3)
      have f1' := hB1.free (k * 3 + 1)
      have f2' := hB1.free (k * 3 + 2)
      clear a0 a1 a2 b0 b1 b2 f0 f1 f2
      go_wp2
      go_roundw
      case rel =>
        refine ⟨k + 1, by omega, by go_num, ((hA1.setOther (by simp only; omega) _).setOther (by simp only; omega) _).setOther (by simp only; omega) _, ((hR1.setOther (by simp only; omega) _).setOther (by simp only; omega) _).setOther (by simp only; omega) _, ?_, ?_⟩
        · rw [← HP.out]
          exact ((hB1.setCell _ _).setCell _ _).setCell _ _
        · exact ((hbb.setCell (by simp; omega) _).setCell (by simp; omega) _).setCell (by simp; omega) _
      case measure => simp [intOf]; omega
    · have hk' : k = 16 := by omega
      subst hk'
      have hx := HX.out
      have hp : pad xs 16 = xs := by simp [pad, hx]; exact List.take_of_length_le (by omega)
      rw [hp] at hB
      have hl : (u8s xs).length = 48 := by simp [u8s, hx]
      have hi : (Try.prog.info? 36).map (·.size) = some (u8s xs).length := by rw [hl]; kernel_rfl
      have hi' : (Try.prog.info? 36).map (·.size) = some (u8s xs).toArray.size := by rw [List.size_toArray]; exact hi
      have hra : wr.rangeAt (n + 1 + 1) 0 (u8s xs) := hB.range 0 _ (fun j v h => by simpa using h)
      have hth : wr.there (n + 1) 0 (u8s xs).toArray.size := hR.there 0 _ (by simp [u8s, hx])
      have h1 : (u8s xs).toArray.all (·.oneCell') = true := all_oneCell_toArray (fun v hv => by simp only [u8s, List.mem_map] at hv; obtain ⟨z, _, rfl⟩ := hv; rfl)
      have hne : splice (u8s (List.replicate 48 0)) 0 (u8s xs) = u8s xs := by
        apply List.ext_getElem?
        intro i
        rw [splice_get]
        by_cases hi : i < 48
        · rw [if_pos ⟨by omega, by rw [hl]; omega, by simpa [u8s] using hi⟩]; simp
        · rw [if_neg (by simp [u8s]; omega), List.getElem?_eq_none (by simp [u8s]; omega), List.getElem?_eq_none (by rw [hl]; omega)]
      have HNE := Lib.hid hne
      have HI := Lib.hid hi'
      clear hx hp hne hl hi hi'
      go_wp2_with (first | (refine wpList_load_mid rfl 36 (.tmp 3) rfl (n + 1 + 1) 0 rfl (u8s xs) (.array 16 35) hra Try.underlying36 rfl (HI.out.trans (by rw [List.size_toArray])) ?_) | (refine wpList_store_mid rfl 36 (.tmp 2) (.tmp 15) rfl (n + 1) 0 _ rfl rfl hth HI.out h1 ?_))
      have hfin := hR.setCells (u8s xs) 0
      rw [HNE.out] at hfin
      exact bodyPost_ret (v := .agg (u8s xs).toArray) (results_cell_row Try.results74 _ _ (n + 1) 36 (u8s xs).toArray (0, 0) (.array 16 35) rfl hfin Try.underlying36 rfl HI.out) rfl ⟨rfl, by rw [HN.out] at hb; exact below_setCells (by rw [HN.out]; omega) _ hb 0⟩

theorem after3 {w0 w1 : World} {A Z C : Array Value} {TA TZ TC : TypeId} (hb : Below (((w0.alloc (.cells A TA)).alloc (.cells Z TZ)).alloc (.cells C TC)).heap.size (((w0.alloc (.cells A TA)).alloc (.cells Z TZ)).alloc (.cells C TC)) w1) :
    Blk w1 w0.heap.size A.toList TA ∧ Blk w1 (w0.heap.size + 1) Z.toList TZ ∧ Blk w1 (w0.heap.size + 1 + 1) C.toList TC ∧ Below w0.heap.size w0 w1 := by
  have e1 : (w0.alloc (.cells A TA)).heap.size = w0.heap.size + 1 := by simp
  have e2 : ((w0.alloc (.cells A TA)).alloc (.cells Z TZ)).heap.size = w0.heap.size + 1 + 1 := by simp
  refine ⟨(((Blk.new w0 A TA).alloc _).alloc _).keep hb, ?_, ?_, ((((Below.refl _ _).alloc (Nat.le_refl _) _).alloc (by simp) _).alloc (by simp; omega) _).trans (hb.mono (by simp; omega))⟩
  · have := ((Blk.new (w0.alloc (.cells A TA)) Z TZ).alloc (.cells C TC)).keep hb
    rwa [e1] at this
  · have := (Blk.new ((w0.alloc (.cells A TA)).alloc (.cells Z TZ)) C TC).keep hb
    rwa [e2] at this

theorem mach_splice {m : Mch} (hw : m.Wf) (Z : Array Value) (hZ : Z.size = 98) :
    splice (splice ((Z.setIfInBounds 0 (Value.int IntKind.i64 m.L)).setIfInBounds 1 (Value.int IntKind.i64 m.S)).toList 2 (u8s m.N)) 50 (u8s m.O) = m.cells := by
  have hn := hw.nl
  have ho := hw.ol
  have hN : (u8s m.N).length = 48 := by simp [u8s, hn]
  have hO : (u8s m.O).length = 48 := by simp [u8s, ho]
  have hZl : ((Z.setIfInBounds 0 (Value.int IntKind.i64 m.L)).setIfInBounds 1 (Value.int IntKind.i64 m.S)).toList.length = 98 := by simp [hZ]
  apply List.ext_getElem?
  intro i
  rw [splice_get, splice_length, splice_get, hN, hO, hZl]
  by_cases c1 : 50 ≤ i ∧ i < 50 + 48 ∧ i < 98
  · rw [if_pos c1]
    simp only [Mch.cells]
    rw [show i = (48 + (i - 50)) + 1 + 1 by omega, List.getElem?_cons_succ, List.getElem?_cons_succ, List.getElem?_map, List.getElem?_append_right (by omega), ← List.getElem?_map, show 48 + (i - 50) - m.N.length = i - 50 by omega, show 48 + (i - 50) + 1 + 1 - 50 = i - 50 by omega]
    rfl
  · rw [if_neg c1]
    by_cases c2 : 2 ≤ i ∧ i < 2 + 48 ∧ i < 98
    · rw [if_pos c2]
      simp only [Mch.cells]
      rw [show i = (i - 2) + 1 + 1 by omega, List.getElem?_cons_succ, List.getElem?_cons_succ, List.getElem?_map, List.getElem?_append_left (by omega), ← List.getElem?_map, show i - 2 + 1 + 1 - 2 = i - 2 by omega]
      rfl
    · rw [if_neg c2]
      by_cases c3 : i < 98
      · have : i = 0 ∨ i = 1 := by omega
        rcases this with rfl | rfl
        · simp [Mch.cells, hZ, Array.getElem?_setIfInBounds]
        · simp [Mch.cells, hZ, Array.getElem?_setIfInBounds]
      · rw [List.getElem?_eq_none (by rw [hZl]; omega), List.getElem?_eq_none (by rw [Mch.cells_length hw]; omega)]

def Mch.arr (m : Mch) : Array Value := m.cells.toArray

set_option maxRecDepth 100000 in
set_option maxHeartbeats 2000000 in
theorem toMachine_any (m : Mch) (hw : m.Wf) (w : World) :
    Calls Try.prog 32 #[.agg m.cells.toArray] w (Ret (.agg m.cells.toArray) w) := by
  have hl : m.cells[0]? = some (.int .i64 m.L) := rfl
  have hs : m.cells[1]? = some (.int .i64 m.S) := rfl
  have hz0 : Try.zeroCells44[0]? = some (.int .i64 0) := by kernel_rfl
  have hz1 : Try.zeroCells44[1]? = some (.int .i64 0) := by kernel_rfl
  go_enter Try.func32, Try.ntmps32
  have hN : (u8s m.N).length = 48 := by simp [u8s, hw.nl]
  have hO : (u8s m.O).length = 48 := by simp [u8s, hw.ol]
  have hiN : (Try.prog.info? 36).map (·.size) = some (u8s m.N).length := by rw [hN]; kernel_rfl
  have hiO : (Try.prog.info? 36).map (·.size) = some (u8s m.O).length := by rw [hO]; kernel_rfl
  have HIN := Lib.hid hiN
  have HIO := Lib.hid hiO
  have HLN := Lib.hid hN
  have HLO := Lib.hid hO
  clear hN hO hiN hiO
  have hr1 : ∀ A B : Obj, (((w.alloc (.cells m.cells.toArray 38)).alloc A).alloc B).rangeAt w.heap.size 2 (u8s m.N) := fun A B => by
    refine (((Blk.new w m.cells.toArray 38).alloc A).alloc B).range 2 _ (fun j v h => ?_)
    have hj : j < m.N.length := by have := (List.getElem?_eq_some_iff.1 h).1; simpa [u8s] using this
    simp only [Mch.cells]
    rw [show 2 + j = j + 1 + 1 by omega, List.getElem?_cons_succ, List.getElem?_cons_succ, List.getElem?_map, List.getElem?_append_left hj, ← List.getElem?_map]
    exact h
  go_wp2_with ((with_reducible refine wpList_load_mid ?_ 36 (.tmp 10) ?_ w.heap.size 2 ?_ (u8s m.N) (.array 16 35) (hr1 _ _) Try.underlying36 ?_ HIN.out ?_); exact rfl; exact rfl; exact rfl; exact rfl)
  refine (toByteA3A16_any m.N hw.nl _).mono ?_
  rintro e w1 ⟨rfl, hb1⟩
  obtain ⟨hM, hZ, hT, hb⟩ := after3 hb1
  clear hb1
  obtain ⟨n, hn⟩ : ∃ n, n = w.heap.size := ⟨_, rfl⟩
  rw [← hn] at hM hZ hT
  rw [← hn]
  have HN := Lib.hid hn
  have h1 : (u8s m.N).toArray.all (·.oneCell') = true := all_oneCell_toArray (fun v hv => by simp only [u8s, List.mem_map] at hv; obtain ⟨z, _, rfl⟩ := hv; rfl)
  have h2 : (u8s m.O).toArray.all (·.oneCell') = true := all_oneCell_toArray (fun v hv => by simp only [u8s, List.mem_map] at hv; obtain ⟨z, _, rfl⟩ := hv; rfl)
  have hcl : ((Try.zeroCells44.setIfInBounds 0 (Value.int IntKind.i64 m.L)).setIfInBounds 1 (Value.int IntKind.i64 m.S)).toList.length = 98 := by simp [Try.zeroCells44_size]
  have ht1 := hT.there 2 (u8s m.N).toArray.size (by rw [hcl, List.size_toArray, HLN.out]; omega)
  have hT2 := hT.setCells (u8s m.N) 2
  have hM2 := hM.setsOther (c := n + 1 + 1) (by omega) (u8s m.N) 2
  have hZ2 := hZ.setsOther (c := n + 1 + 1) (by omega) (u8s m.N) 2
  have hb' : Below n w w1 := by rw [HN.out]; exact hb
  have hb2 := below_setCells (b := n + 1 + 1) (by omega) (u8s m.N) hb' 2
  have hr2 := hM2.range 50 (u8s m.O) (fun j v h => by
    have hj : j < m.O.length := by have := (List.getElem?_eq_some_iff.1 h).1; simpa [u8s] using this
    have e := hw.nl
    simp only [Mch.cells]
    rw [show 50 + j = (48 + j) + 1 + 1 by omega, List.getElem?_cons_succ, List.getElem?_cons_succ, List.getElem?_map, List.getElem?_append_right (by omega), show 48 + j - m.N.length = j by omega, ← List.getElem?_map]
    exact h)
  have HC := Lib.hid (mach_splice hw Try.zeroCells44 Try.zeroCells44_size)
  have hI1 : Hid ((Try.prog.info? 36).map (·.size) = some (u8s m.N).toArray.size) := HIN.out.trans (by rw [List.size_toArray])
  have hI2 : Hid ((Try.prog.info? 36).map (·.size) = some (u8s m.O).toArray.size) := HIO.out.trans (by rw [List.size_toArray])
  clear hn hr1 hcl
  go_wp2_with (first | ((with_reducible refine wpList_store_mid ?_ 36 (.tmp 13) (.tmp 12) ?_ (n + 1 + 1) 2 (u8s m.N).toArray ?_ ?_ ht1 hI1.out h1 ?_); exact rfl; exact rfl; exact rfl; exact rfl) | ((with_reducible refine wpList_load_mid ?_ 36 (.tmp 14) ?_ n 50 ?_ (u8s m.O) (.array 16 35) hr2 Try.underlying36 ?_ HIO.out ?_); exact rfl; exact rfl; exact rfl; exact rfl))
  refine (toByteA3A16_any m.O hw.ol _).mono ?_
  rintro e w2 ⟨rfl, hb3⟩
  have hT3 := hT2.keep hb3
  have hZ3 := hZ2.keep hb3
  have hb4 : Below n w w2 := hb2.trans (hb3.mono (Nat.le_of_lt hM2.lt))
  have ht3 := hT3.there 50 (u8s m.O).toArray.size (by rw [splice_length, List.size_toArray, HLO.out]; simp [Try.zeroCells44_size])
  have hT4 := hT3.setCells (u8s m.O) 50
  rw [HC.out] at hT4
  have hZ4 := hZ3.setsOther (c := n + 1 + 1) (by omega) (u8s m.O) 50
  have hb5 := below_setCells (b := n + 1 + 1) (by omega) (u8s m.O) hb4 50
  have hr4 := hT4.range 0 m.cells (fun j v h => by simpa using h)
  have hi4 : Hid ((Try.prog.info? 44).map (·.size) = some m.cells.length) := by show _ = _; rw [Mch.cells_length hw]; kernel_rfl
  have hi5 : Hid ((Try.prog.info? 44).map (·.size) = some m.cells.toArray.size) := hi4.out.trans (by rw [List.size_toArray])
  have ht5 := hZ4.there 0 m.cells.toArray.size (by rw [List.size_toArray, Mch.cells_length hw]; simp [Try.zeroCells44_size])
  have h5 : m.cells.toArray.all (·.oneCell') = true := all_oneCell_toArray (fun v hv => by simp only [Mch.cells, List.mem_cons, List.mem_map] at hv; rcases hv with rfl | rfl | ⟨z, _, rfl⟩ <;> rfl)
  have hZ6 := hZ4.setCells m.cells 0
  have HZ6 := Lib.hid (show splice Try.zeroCells44.toList 0 m.cells = m.cells from splice_all (by rw [Mch.cells_length hw]; simp [Try.zeroCells44_size]))
  have hb6 := below_setCells (b := n + 1) (by omega) m.cells hb5 0
  go_wp2_with (first | ((with_reducible refine wpList_store_mid ?_ 36 (.tmp 17) (.tmp 16) ?_ (n + 1 + 1) 50 (u8s m.O).toArray ?_ ?_ ht3 hI2.out h2 ?_); exact rfl; exact rfl; exact rfl; exact rfl) | ((with_reducible refine wpList_load_mid ?_ 44 (.tmp 3) ?_ (n + 1 + 1) 0 ?_ m.cells (.struct _) hr4 Try.underlying44 ?_ hi4.out ?_); exact rfl; exact rfl; exact rfl; exact rfl) | ((with_reducible refine wpList_store_mid ?_ 44 (.tmp 2) (.tmp 18) ?_ (n + 1) 0 m.cells.toArray ?_ ?_ ht5 hi5.out h5 ?_); exact rfl; exact rfl; exact rfl; exact rfl))
  rw [HZ6.out] at hZ6
  exact bodyPost_ret (v := .agg m.cells.toArray) (results_cell_row Try.results32 _ _ (n + 1) 44 m.cells.toArray (0, 0) (.struct _) rfl hZ6 Try.underlying44 rfl hi5.out) rfl ⟨rfl, by rw [← HN.out]; exact hb6⟩
end Go.Proofs.Ytmacnofkpdikiaa
