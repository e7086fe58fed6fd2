import Derived.Test.YthgkkaifdlkciaaYTile07
import Derived.Deep.DeepCutAuto
/- Tiles: the reference's table. -/
namespace Go.Proofs.Ythgkkaifdlkciaa
open Go.RowKit
set_option linter.unusedVariables false
set_option linter.unusedSimpArgs false

def hdl (g : Nat → Nat) (P k : Nat) : List Value := (List.range k).map fun i => .slice (some ⟨g i, 0, none⟩) P P
theorem hdl_len (g : Nat → Nat) (P k : Nat) : (hdl g P k).length = k := by simp [hdl]
theorem hdl_get {g : Nat → Nat} {P k i : Nat} (h : i < k) : (hdl g P k)[i]? = some (.slice (some ⟨g i, 0, none⟩) P P) := by simp [hdl, h]
theorem hdl_succ (g : Nat → Nat) (P k b : Nat) : hdl (fun i => if i = k then b else g i) P (k + 1) = hdl g P k ++ [.slice (some ⟨b, 0, none⟩) P P] := by
  simp only [hdl, List.range_succ, List.map_append, List.map_cons, List.map_nil]
  congr 1
  · apply List.map_congr_left
    intro i hi
    have : i < k := by simpa using hi
    rw [if_neg (by omega)]

set_option maxRecDepth 100000 in
set_option maxHeartbeats 8000000 in
theorem l09Joined_any (m : Mch) (hwf : m.Wf) (hok : m.Ok) (n : Nat) (hn : n + m.l ≤ 7) (w : World) :
    Calls Try.prog 37 #[.agg m.cells.toArray, .int .i64 n] w fun e w' => ∃ v, e = .returned v ∧ Below w.heap.size w w' ∧ BoolM w' v (m.l ^ n) (tileK m n (m.l ^ n)) := by
  obtain ⟨i0, hi, hz0, hz1, hz2⟩ := info_parts Try.info57
  have hl2 := hok.l_ge
  have hl3 := hok.l_le
  have hs16 := hok.s_le
  have hp := pow_level hl2 hl3 hn
  have hM0 := (Mm.start w).alloc m.cells.toArray 28
  rw [List.toList_toArray] at hM0
  have HPOW : Hid (∀ W, Calls Try.prog 60 #[.int .i64 m.l, .int .i64 n] W fun e w' => e = .returned (.int .i64 ((m.l ^ n : Nat) : Int)) ∧ W = w') := fun W => l01Power_any m.l n hl3 (by omega) W
  obtain ⟨P, hP⟩ : ∃ P, P = m.l ^ n := ⟨_, rfl⟩
  rw [← hP] at hp HPOW
  have HIM : Hid (∀ q k, q < m.s → imgN m n q k < P) := fun q k hq => by rw [hP]; exact imgN_lt hok hwf hq n k
  have HP := Lib.hid hP
  have HI := Lib.hid (bls_info (trivB m))
  have H1 := Lib.hid (bls_one (trivB m))
  have HMI := Lib.hid (mach_info hwf)
  have HLL : Hid (m.L = (m.l : Int)) := hok.L_eq
  have hmx : Try.prog.follows .mixedOrders = true := by kernel_rfl
  have HMX := Lib.hid hmx
  clear hP hmx
  go_enter Try.func37, Try.ntmps37
  go_wp2_with fail
  go_cut [5, 6, 7] (fun s5 s6 s7 W => ∃ ba be : Nat, s5 = .pointer (some ⟨ba, 0, none⟩) ∧ s6 = .int .i64 (P : Int) ∧ s7 = .slice (some ⟨be, 0, none⟩) 0 0 ∧ Mm w.heap.size w W [(ba, bls (trivB m), 61), (be, [], 57), (w.heap.size, m.cells, 28)] [])
  case first =>
    refine region_S (fun W => MAt W w.heap.size 0 m) [] 11 rfl HMX.out (hM0.drew.mach 0 rfl) (fun hU => ?_)
    have hM := hM0.drew
    obtain ⟨W, hW⟩ : ∃ W, W = (w.alloc (.cells m.cells.toArray 28)).drew := ⟨_, rfl⟩
    rw [← hW] at hU hM ⊢
    clear hW hM0
    (refine AnyS.takeS (i := 0) rfl (by kernel_rfl) (by kernel_rfl) (by kernel_rfl) (by rfl) (by kernel_rfl) (by kernel_rfl) (fun _ _ _ h => h) (by rfl) (fun W hW => run_ld Try.underlying28 rfl HMI.out (.tmp 2) rfl rfl hW) hU (fun hU => ?_); (try simp only [Act.put, List.setIfInBounds_toArray, List.set_cons_zero, List.set_cons_succ]))
    (refine AnyS.take (i := 2) rfl (by kernel_rfl) (by kernel_rfl) (by kernel_rfl) (by rfl) (fun _ _ _ h => h) (by rfl) (by intro w; go_simp; with_reducible rfl) hU (fun hU => ?_); (try simp only [Act.put, List.setIfInBounds_toArray, List.set_cons_zero, List.set_cons_succ]))
    (refine AnyS.takeS (i := 3) rfl (by kernel_rfl) (by kernel_rfl) (by kernel_rfl) (by rfl) (by kernel_rfl) (by kernel_rfl) (fun _ _ _ h => h) (by rfl) (by intro W hSw; have hl := hSw.l; rw [HLL.out] at hl; go_simp; with_reducible rfl) hU (fun hU => ?_); (try simp only [Act.put, List.setIfInBounds_toArray, List.set_cons_zero, List.set_cons_succ]))
    (refine AnyS.take (i := 4) rfl (by kernel_rfl) (by kernel_rfl) (by kernel_rfl) (by rfl) (fun _ _ _ h => h) (by rfl) (by intro w; go_simp; with_reducible rfl) hU (fun hU => ?_); (try simp only [Act.put, List.setIfInBounds_toArray, List.set_cons_zero, List.set_cons_succ]))
    refine AnyS.branch (rs := [1, 6, 7]) (by kernel_rfl) (by simp) (AllS.cons rfl (fun K hK => ?_) (AllS.cons rfl (fun K hK => ?_) (AllS.cons rfl (fun K hK => ?_) AllS.nil)))
    · skip
      go_simp
      refine (l01Trivial_any m hwf hok _).mono ?_
      rintro e W1 ⟨rfl, hb1⟩
      refine Shut.abs hK (fun W => Mm w.heap.size w W [(w.heap.size, m.cells, 28)] []) (hM.call hb1) (fun W h => h.mach 0 rfl) ?_
      clear hK K hM hU hb1
      rintro W hM hU
      (try simp only [Act.put, List.setIfInBounds_toArray, List.set_cons_zero, List.set_cons_succ])
      refine AnyS.branch (rs := [5, 6, 7]) (by kernel_rfl) (by simp) (AllS.cons rfl (fun K hK => ?_) (AllS.cons rfl (fun K hK => ?_) (AllS.cons rfl (fun K hK => ?_) AllS.nil)))
      · skip
        go_simp
        refine (HPOW.out _).mono ?_
        rintro e W1 ⟨rfl, rfl⟩
        refine Shut.abs hK (fun W => Mm w.heap.size w W [(w.heap.size, m.cells, 28)] []) hM (fun W h => h.mach 0 rfl) ?_
        clear hK K hM hU
        rintro W hM hU
        (try simp only [Act.put, List.setIfInBounds_toArray, List.set_cons_zero, List.set_cons_succ])
        refine AnyS.branch (rs := [6, 7]) (by kernel_rfl) (by simp) (AllS.cons rfl (fun K hK => ?_) (AllS.cons rfl (fun K hK => ?_) AllS.nil))
        · skip
          go_simp
          obtain ⟨be, ebe⟩ : ∃ be, be = W.heap.size := ⟨_, rfl⟩
          rw [← ebe]
          have h6 := hM.alloc #[] 57
          rw [← ebe] at h6
          refine Shut.abs hK (fun W => Mm w.heap.size w W [(be, [], 57), (w.heap.size, m.cells, 28)] []) h6 (fun W h => h.mach 1 rfl) ?_
          clear hK K hM hU h6 ebe
          rintro W hM hU
          (try simp only [Act.put, List.setIfInBounds_toArray, List.set_cons_zero, List.set_cons_succ])
          refine AnyS.branch (rs := [7]) (by kernel_rfl) (by simp) (AllS.cons rfl (fun K hK => ?_) AllS.nil)
          go_simp
          obtain ⟨ba, eba⟩ : ∃ ba, ba = W.heap.size := ⟨_, rfl⟩
          rw [← eba]
          have h7 := hM.alloc #[.bool false, .bool false, .bool false, .bool false, .bool false, .bool false, .bool false, .bool false, .bool false, .bool false, .bool false, .bool false, .bool false, .bool false, .bool false, .bool false] 61
          rw [← eba] at h7
          refine Shut.abs hK (fun W => Mm w.heap.size w W [(ba, [.bool false, .bool false, .bool false, .bool false, .bool false, .bool false, .bool false, .bool false, .bool false, .bool false, .bool false, .bool false, .bool false, .bool false, .bool false, .bool false], 61), (be, [], 57), (w.heap.size, m.cells, 28)] []) h7 (fun W h => h.mach 2 rfl) ?_
          clear hK K hM hU h7 eba
          rintro W hM hU
          (try simp only [Act.put, List.setIfInBounds_toArray, List.set_cons_zero, List.set_cons_succ])
          refine AnyS.branch (rs := [8]) (by kernel_rfl) (by simp) (AllS.cons rfl (fun K hK => ?_) AllS.nil)
          rw [if_pos (by rfl)]
          refine wp_store_mid 61 (.tmp 5) (.tmp 17) rfl ba 0 (bls (trivB m)).toArray rfl rfl (by rw [List.size_toArray]; exact (hM.at 0 rfl).there 0 _ (by simp [bls])) (by rw [List.size_toArray]; exact HI.out) (all_oneCell_toArray H1.out) ?_
          refine Shut.abs hK (fun W => Mm w.heap.size w W [(ba, bls (trivB m), 61), (be, [], 57), (w.heap.size, m.cells, 28)] []) (hM.setAll 0 rfl (vs := bls (trivB m)) (by simp [bls])) (fun W h => h.mach 2 rfl) ?_
          clear hK K hM hU
          rintro W hM hU
          (try simp only [Act.put, List.setIfInBounds_toArray, List.set_cons_zero, List.set_cons_succ])
          refine AnyS.branch (rs := [9]) (by kernel_rfl) (by simp) (AllS.cons rfl (fun K hK => ?_) AllS.nil)
          go_simp
          refine Shut.abs hK (fun W => Mm w.heap.size w W [(ba, bls (trivB m), 61), (be, [], 57), (w.heap.size, m.cells, 28)] []) hM (fun W h => h.mach 2 rfl) ?_
          clear hK K hM hU
          rintro W hM hU
          (try simp only [Act.put, List.setIfInBounds_toArray, List.set_cons_zero, List.set_cons_succ])
          refine AnyS.branch (rs := [10]) (by kernel_rfl) (by simp) (AllS.cons rfl (fun K hK => ?_) AllS.nil)
          go_simp
          refine Shut.abs hK (fun W => Mm w.heap.size w W [(ba, bls (trivB m), 61), (be, [], 57), (w.heap.size, m.cells, 28)] []) hM (fun W h => h.mach 2 rfl) ?_
          clear hK K hM hU
          rintro W hM hU
          (try simp only [Act.put, List.setIfInBounds_toArray, List.set_cons_zero, List.set_cons_succ])
          refine AnyS.done (by kernel_rfl) ?_ _
          clear hU
          go_wp2_with fail
          go_meet
          case rel => exact ⟨ba, be, rfl, rfl, rfl, hM⟩
        · skip
          go_simp
          obtain ⟨ba, eba⟩ : ∃ ba, ba = W.heap.size := ⟨_, rfl⟩
          rw [← eba]
          have h7 := hM.alloc #[.bool false, .bool false, .bool false, .bool false, .bool false, .bool false, .bool false, .bool false, .bool false, .bool false, .bool false, .bool false, .bool false, .bool false, .bool false, .bool false] 61
          rw [← eba] at h7
          refine Shut.abs hK (fun W => Mm w.heap.size w W [(ba, [.bool false, .bool false, .bool false, .bool false, .bool false, .bool false, .bool false, .bool false, .bool false, .bool false, .bool false, .bool false, .bool false, .bool false, .bool false, .bool false], 61), (w.heap.size, m.cells, 28)] []) h7 (fun W h => h.mach 1 rfl) ?_
          clear hK K hM hU h7 eba
          rintro W hM hU
          (try simp only [Act.put, List.setIfInBounds_toArray, List.set_cons_zero, List.set_cons_succ])
          refine AnyS.branch (rs := [6, 8]) (by kernel_rfl) (by simp) (AllS.cons rfl (fun K hK => ?_) (AllS.cons rfl (fun K hK => ?_) AllS.nil))
          · skip
            go_simp
            obtain ⟨be, ebe⟩ : ∃ be, be = W.heap.size := ⟨_, rfl⟩
            rw [← ebe]
            have h6 := hM.alloc #[] 57
            rw [← ebe] at h6
            refine Shut.abs hK (fun W => Mm w.heap.size w W [(ba, [.bool false, .bool false, .bool false, .bool false, .bool false, .bool false, .bool false, .bool false, .bool false, .bool false, .bool false, .bool false, .bool false, .bool false, .bool false, .bool false], 61), (be, [], 57), (w.heap.size, m.cells, 28)] []) (h6.permL (List.Perm.swap _ _ _)) (fun W h => h.mach 2 rfl) ?_
            clear hK K hM hU h6 ebe
            rintro W hM hU
            (try simp only [Act.put, List.setIfInBounds_toArray, List.set_cons_zero, List.set_cons_succ])
            refine AnyS.branch (rs := [8]) (by kernel_rfl) (by simp) (AllS.cons rfl (fun K hK => ?_) AllS.nil)
            rw [if_pos (by rfl)]
            refine wp_store_mid 61 (.tmp 5) (.tmp 17) rfl ba 0 (bls (trivB m)).toArray rfl rfl (by rw [List.size_toArray]; exact (hM.at 0 rfl).there 0 _ (by simp [bls])) (by rw [List.size_toArray]; exact HI.out) (all_oneCell_toArray H1.out) ?_
            refine Shut.abs hK (fun W => Mm w.heap.size w W [(ba, bls (trivB m), 61), (be, [], 57), (w.heap.size, m.cells, 28)] []) (hM.setAll 0 rfl (vs := bls (trivB m)) (by simp [bls])) (fun W h => h.mach 2 rfl) ?_
            clear hK K hM hU
            rintro W hM hU
            (try simp only [Act.put, List.setIfInBounds_toArray, List.set_cons_zero, List.set_cons_succ])
            refine AnyS.branch (rs := [9]) (by kernel_rfl) (by simp) (AllS.cons rfl (fun K hK => ?_) AllS.nil)
            go_simp
            refine Shut.abs hK (fun W => Mm w.heap.size w W [(ba, bls (trivB m), 61), (be, [], 57), (w.heap.size, m.cells, 28)] []) hM (fun W h => h.mach 2 rfl) ?_
            clear hK K hM hU
            rintro W hM hU
            (try simp only [Act.put, List.setIfInBounds_toArray, List.set_cons_zero, List.set_cons_succ])
            refine AnyS.branch (rs := [10]) (by kernel_rfl) (by simp) (AllS.cons rfl (fun K hK => ?_) AllS.nil)
            go_simp
            refine Shut.abs hK (fun W => Mm w.heap.size w W [(ba, bls (trivB m), 61), (be, [], 57), (w.heap.size, m.cells, 28)] []) hM (fun W h => h.mach 2 rfl) ?_
            clear hK K hM hU
            rintro W hM hU
            (try simp only [Act.put, List.setIfInBounds_toArray, List.set_cons_zero, List.set_cons_succ])
            refine AnyS.done (by kernel_rfl) ?_ _
            clear hU
            go_wp2_with fail
            go_meet
            case rel => exact ⟨ba, be, rfl, rfl, rfl, hM⟩
          · skip
            rw [if_pos (by rfl)]
            refine wp_store_mid 61 (.tmp 5) (.tmp 17) rfl ba 0 (bls (trivB m)).toArray rfl rfl (by rw [List.size_toArray]; exact (hM.at 0 rfl).there 0 _ (by simp [bls])) (by rw [List.size_toArray]; exact HI.out) (all_oneCell_toArray H1.out) ?_
            refine Shut.abs hK (fun W => Mm w.heap.size w W [(ba, bls (trivB m), 61), (w.heap.size, m.cells, 28)] []) (hM.setAll 0 rfl (vs := bls (trivB m)) (by simp [bls])) (fun W h => h.mach 1 rfl) ?_
            clear hK K hM hU
            rintro W hM hU
            (try simp only [Act.put, List.setIfInBounds_toArray, List.set_cons_zero, List.set_cons_succ])
            refine AnyS.branch (rs := [6, 9]) (by kernel_rfl) (by simp) (AllS.cons rfl (fun K hK => ?_) (AllS.cons rfl (fun K hK => ?_) AllS.nil))
            · skip
              go_simp
              obtain ⟨be, ebe⟩ : ∃ be, be = W.heap.size := ⟨_, rfl⟩
              rw [← ebe]
              have h6 := hM.alloc #[] 57
              rw [← ebe] at h6
              refine Shut.abs hK (fun W => Mm w.heap.size w W [(ba, bls (trivB m), 61), (be, [], 57), (w.heap.size, m.cells, 28)] []) (h6.permL (List.Perm.swap _ _ _)) (fun W h => h.mach 2 rfl) ?_
              clear hK K hM hU h6 ebe
              rintro W hM hU
              (try simp only [Act.put, List.setIfInBounds_toArray, List.set_cons_zero, List.set_cons_succ])
              refine AnyS.branch (rs := [9]) (by kernel_rfl) (by simp) (AllS.cons rfl (fun K hK => ?_) AllS.nil)
              go_simp
              refine Shut.abs hK (fun W => Mm w.heap.size w W [(ba, bls (trivB m), 61), (be, [], 57), (w.heap.size, m.cells, 28)] []) hM (fun W h => h.mach 2 rfl) ?_
              clear hK K hM hU
              rintro W hM hU
              (try simp only [Act.put, List.setIfInBounds_toArray, List.set_cons_zero, List.set_cons_succ])
              refine AnyS.branch (rs := [10]) (by kernel_rfl) (by simp) (AllS.cons rfl (fun K hK => ?_) AllS.nil)
              go_simp
              refine Shut.abs hK (fun W => Mm w.heap.size w W [(ba, bls (trivB m), 61), (be, [], 57), (w.heap.size, m.cells, 28)] []) hM (fun W h => h.mach 2 rfl) ?_
              clear hK K hM hU
              rintro W hM hU
              (try simp only [Act.put, List.setIfInBounds_toArray, List.set_cons_zero, List.set_cons_succ])
              refine AnyS.done (by kernel_rfl) ?_ _
              clear hU
              go_wp2_with fail
              go_meet
              case rel => exact ⟨ba, be, rfl, rfl, rfl, hM⟩
            · skip
              go_simp
              refine Shut.abs hK (fun W => Mm w.heap.size w W [(ba, bls (trivB m), 61), (w.heap.size, m.cells, 28)] []) hM (fun W h => h.mach 1 rfl) ?_
              clear hK K hM hU
              rintro W hM hU
              (try simp only [Act.put, List.setIfInBounds_toArray, List.set_cons_zero, List.set_cons_succ])
              refine AnyS.branch (rs := [6]) (by kernel_rfl) (by simp) (AllS.cons rfl (fun K hK => ?_) AllS.nil)
              go_simp
              obtain ⟨be, ebe⟩ : ∃ be, be = W.heap.size := ⟨_, rfl⟩
              rw [← ebe]
              have h6 := hM.alloc #[] 57
              rw [← ebe] at h6
              refine Shut.abs hK (fun W => Mm w.heap.size w W [(ba, bls (trivB m), 61), (be, [], 57), (w.heap.size, m.cells, 28)] []) (h6.permL (List.Perm.swap _ _ _)) (fun W h => h.mach 2 rfl) ?_
              clear hK K hM hU h6 ebe
              rintro W hM hU
              (try simp only [Act.put, List.setIfInBounds_toArray, List.set_cons_zero, List.set_cons_succ])
              refine AnyS.branch (rs := [10]) (by kernel_rfl) (by simp) (AllS.cons rfl (fun K hK => ?_) AllS.nil)
              go_simp
              refine Shut.abs hK (fun W => Mm w.heap.size w W [(ba, bls (trivB m), 61), (be, [], 57), (w.heap.size, m.cells, 28)] []) hM (fun W h => h.mach 2 rfl) ?_
              clear hK K hM hU
              rintro W hM hU
              (try simp only [Act.put, List.setIfInBounds_toArray, List.set_cons_zero, List.set_cons_succ])
              refine AnyS.done (by kernel_rfl) ?_ _
              clear hU
              go_wp2_with fail
              go_meet
              case rel => exact ⟨ba, be, rfl, rfl, rfl, hM⟩
      · skip
        go_simp
        obtain ⟨be, ebe⟩ : ∃ be, be = W.heap.size := ⟨_, rfl⟩
        rw [← ebe]
        have h6 := hM.alloc #[] 57
        rw [← ebe] at h6
        refine Shut.abs hK (fun W => Mm w.heap.size w W [(be, [], 57), (w.heap.size, m.cells, 28)] []) h6 (fun W h => h.mach 1 rfl) ?_
        clear hK K hM hU h6 ebe
        rintro W hM hU
        (try simp only [Act.put, List.setIfInBounds_toArray, List.set_cons_zero, List.set_cons_succ])
        refine AnyS.branch (rs := [5, 7]) (by kernel_rfl) (by simp) (AllS.cons rfl (fun K hK => ?_) (AllS.cons rfl (fun K hK => ?_) AllS.nil))
        · skip
          go_simp
          refine (HPOW.out _).mono ?_
          rintro e W1 ⟨rfl, rfl⟩
          refine Shut.abs hK (fun W => Mm w.heap.size w W [(be, [], 57), (w.heap.size, m.cells, 28)] []) hM (fun W h => h.mach 1 rfl) ?_
          clear hK K hM hU
          rintro W hM hU
          (try simp only [Act.put, List.setIfInBounds_toArray, List.set_cons_zero, List.set_cons_succ])
          refine AnyS.branch (rs := [7]) (by kernel_rfl) (by simp) (AllS.cons rfl (fun K hK => ?_) AllS.nil)
          go_simp
          obtain ⟨ba, eba⟩ : ∃ ba, ba = W.heap.size := ⟨_, rfl⟩
          rw [← eba]
          have h7 := hM.alloc #[.bool false, .bool false, .bool false, .bool false, .bool false, .bool false, .bool false, .bool false, .bool false, .bool false, .bool false, .bool false, .bool false, .bool false, .bool false, .bool false] 61
          rw [← eba] at h7
          refine Shut.abs hK (fun W => Mm w.heap.size w W [(ba, [.bool false, .bool false, .bool false, .bool false, .bool false, .bool false, .bool false, .bool false, .bool false, .bool false, .bool false, .bool false, .bool false, .bool false, .bool false, .bool false], 61), (be, [], 57), (w.heap.size, m.cells, 28)] []) h7 (fun W h => h.mach 2 rfl) ?_
          clear hK K hM hU h7 eba
          rintro W hM hU
          (try simp only [Act.put, List.setIfInBounds_toArray, List.set_cons_zero, List.set_cons_succ])
          refine AnyS.branch (rs := [8]) (by kernel_rfl) (by simp) (AllS.cons rfl (fun K hK => ?_) AllS.nil)
          rw [if_pos (by rfl)]
          refine wp_store_mid 61 (.tmp 5) (.tmp 17) rfl ba 0 (bls (trivB m)).toArray rfl rfl (by rw [List.size_toArray]; exact (hM.at 0 rfl).there 0 _ (by simp [bls])) (by rw [List.size_toArray]; exact HI.out) (all_oneCell_toArray H1.out) ?_
          refine Shut.abs hK (fun W => Mm w.heap.size w W [(ba, bls (trivB m), 61), (be, [], 57), (w.heap.size, m.cells, 28)] []) (hM.setAll 0 rfl (vs := bls (trivB m)) (by simp [bls])) (fun W h => h.mach 2 rfl) ?_
          clear hK K hM hU
          rintro W hM hU
          (try simp only [Act.put, List.setIfInBounds_toArray, List.set_cons_zero, List.set_cons_succ])
          refine AnyS.branch (rs := [9]) (by kernel_rfl) (by simp) (AllS.cons rfl (fun K hK => ?_) AllS.nil)
          go_simp
          refine Shut.abs hK (fun W => Mm w.heap.size w W [(ba, bls (trivB m), 61), (be, [], 57), (w.heap.size, m.cells, 28)] []) hM (fun W h => h.mach 2 rfl) ?_
          clear hK K hM hU
          rintro W hM hU
          (try simp only [Act.put, List.setIfInBounds_toArray, List.set_cons_zero, List.set_cons_succ])
          refine AnyS.branch (rs := [10]) (by kernel_rfl) (by simp) (AllS.cons rfl (fun K hK => ?_) AllS.nil)
          go_simp
          refine Shut.abs hK (fun W => Mm w.heap.size w W [(ba, bls (trivB m), 61), (be, [], 57), (w.heap.size, m.cells, 28)] []) hM (fun W h => h.mach 2 rfl) ?_
          clear hK K hM hU
          rintro W hM hU
          (try simp only [Act.put, List.setIfInBounds_toArray, List.set_cons_zero, List.set_cons_succ])
          refine AnyS.done (by kernel_rfl) ?_ _
          clear hU
          go_wp2_with fail
          go_meet
          case rel => exact ⟨ba, be, rfl, rfl, rfl, hM⟩
        · skip
          go_simp
          obtain ⟨ba, eba⟩ : ∃ ba, ba = W.heap.size := ⟨_, rfl⟩
          rw [← eba]
          have h7 := hM.alloc #[.bool false, .bool false, .bool false, .bool false, .bool false, .bool false, .bool false, .bool false, .bool false, .bool false, .bool false, .bool false, .bool false, .bool false, .bool false, .bool false] 61
          rw [← eba] at h7
          refine Shut.abs hK (fun W => Mm w.heap.size w W [(ba, [.bool false, .bool false, .bool false, .bool false, .bool false, .bool false, .bool false, .bool false, .bool false, .bool false, .bool false, .bool false, .bool false, .bool false, .bool false, .bool false], 61), (be, [], 57), (w.heap.size, m.cells, 28)] []) h7 (fun W h => h.mach 2 rfl) ?_
          clear hK K hM hU h7 eba
          rintro W hM hU
          (try simp only [Act.put, List.setIfInBounds_toArray, List.set_cons_zero, List.set_cons_succ])
          refine AnyS.branch (rs := [5]) (by kernel_rfl) (by simp) (AllS.cons rfl (fun K hK => ?_) AllS.nil)
          go_simp
          refine (HPOW.out _).mono ?_
          rintro e W1 ⟨rfl, rfl⟩
          refine Shut.abs hK (fun W => Mm w.heap.size w W [(ba, [.bool false, .bool false, .bool false, .bool false, .bool false, .bool false, .bool false, .bool false, .bool false, .bool false, .bool false, .bool false, .bool false, .bool false, .bool false, .bool false], 61), (be, [], 57), (w.heap.size, m.cells, 28)] []) hM (fun W h => h.mach 2 rfl) ?_
          clear hK K hM hU
          rintro W hM hU
          (try simp only [Act.put, List.setIfInBounds_toArray, List.set_cons_zero, List.set_cons_succ])
          refine AnyS.branch (rs := [8]) (by kernel_rfl) (by simp) (AllS.cons rfl (fun K hK => ?_) AllS.nil)
          rw [if_pos (by rfl)]
          refine wp_store_mid 61 (.tmp 5) (.tmp 17) rfl ba 0 (bls (trivB m)).toArray rfl rfl (by rw [List.size_toArray]; exact (hM.at 0 rfl).there 0 _ (by simp [bls])) (by rw [List.size_toArray]; exact HI.out) (all_oneCell_toArray H1.out) ?_
          refine Shut.abs hK (fun W => Mm w.heap.size w W [(ba, bls (trivB m), 61), (be, [], 57), (w.heap.size, m.cells, 28)] []) (hM.setAll 0 rfl (vs := bls (trivB m)) (by simp [bls])) (fun W h => h.mach 2 rfl) ?_
          clear hK K hM hU
          rintro W hM hU
          (try simp only [Act.put, List.setIfInBounds_toArray, List.set_cons_zero, List.set_cons_succ])
          refine AnyS.branch (rs := [9]) (by kernel_rfl) (by simp) (AllS.cons rfl (fun K hK => ?_) AllS.nil)
          go_simp
          refine Shut.abs hK (fun W => Mm w.heap.size w W [(ba, bls (trivB m), 61), (be, [], 57), (w.heap.size, m.cells, 28)] []) hM (fun W h => h.mach 2 rfl) ?_
          clear hK K hM hU
          rintro W hM hU
          (try simp only [Act.put, List.setIfInBounds_toArray, List.set_cons_zero, List.set_cons_succ])
          refine AnyS.branch (rs := [10]) (by kernel_rfl) (by simp) (AllS.cons rfl (fun K hK => ?_) AllS.nil)
          go_simp
          refine Shut.abs hK (fun W => Mm w.heap.size w W [(ba, bls (trivB m), 61), (be, [], 57), (w.heap.size, m.cells, 28)] []) hM (fun W h => h.mach 2 rfl) ?_
          clear hK K hM hU
          rintro W hM hU
          (try simp only [Act.put, List.setIfInBounds_toArray, List.set_cons_zero, List.set_cons_succ])
          refine AnyS.done (by kernel_rfl) ?_ _
          clear hU
          go_wp2_with fail
          go_meet
          case rel => exact ⟨ba, be, rfl, rfl, rfl, hM⟩
      · skip
        go_simp
        obtain ⟨ba, eba⟩ : ∃ ba, ba = W.heap.size := ⟨_, rfl⟩
        rw [← eba]
        have h7 := hM.alloc #[.bool false, .bool false, .bool false, .bool false, .bool false, .bool false, .bool false, .bool false, .bool false, .bool false, .bool false, .bool false, .bool false, .bool false, .bool false, .bool false] 61
        rw [← eba] at h7
        refine Shut.abs hK (fun W => Mm w.heap.size w W [(ba, [.bool false, .bool false, .bool false, .bool false, .bool false, .bool false, .bool false, .bool false, .bool false, .bool false, .bool false, .bool false, .bool false, .bool false, .bool false, .bool false], 61), (w.heap.size, m.cells, 28)] []) h7 (fun W h => h.mach 1 rfl) ?_
        clear hK K hM hU h7 eba
        rintro W hM hU
        (try simp only [Act.put, List.setIfInBounds_toArray, List.set_cons_zero, List.set_cons_succ])
        refine AnyS.branch (rs := [5, 6]) (by kernel_rfl) (by simp) (AllS.cons rfl (fun K hK => ?_) (AllS.cons rfl (fun K hK => ?_) AllS.nil))
        · skip
          go_simp
          refine (HPOW.out _).mono ?_
          rintro e W1 ⟨rfl, rfl⟩
          refine Shut.abs hK (fun W => Mm w.heap.size w W [(ba, [.bool false, .bool false, .bool false, .bool false, .bool false, .bool false, .bool false, .bool false, .bool false, .bool false, .bool false, .bool false, .bool false, .bool false, .bool false, .bool false], 61), (w.heap.size, m.cells, 28)] []) hM (fun W h => h.mach 1 rfl) ?_
          clear hK K hM hU
          rintro W hM hU
          (try simp only [Act.put, List.setIfInBounds_toArray, List.set_cons_zero, List.set_cons_succ])
          refine AnyS.branch (rs := [6, 8]) (by kernel_rfl) (by simp) (AllS.cons rfl (fun K hK => ?_) (AllS.cons rfl (fun K hK => ?_) AllS.nil))
          · skip
            go_simp
            obtain ⟨be, ebe⟩ : ∃ be, be = W.heap.size := ⟨_, rfl⟩
            rw [← ebe]
            have h6 := hM.alloc #[] 57
            rw [← ebe] at h6
            refine Shut.abs hK (fun W => Mm w.heap.size w W [(ba, [.bool false, .bool false, .bool false, .bool false, .bool false, .bool false, .bool false, .bool false, .bool false, .bool false, .bool false, .bool false, .bool false, .bool false, .bool false, .bool false], 61), (be, [], 57), (w.heap.size, m.cells, 28)] []) (h6.permL (List.Perm.swap _ _ _)) (fun W h => h.mach 2 rfl) ?_
            clear hK K hM hU h6 ebe
            rintro W hM hU
            (try simp only [Act.put, List.setIfInBounds_toArray, List.set_cons_zero, List.set_cons_succ])
            refine AnyS.branch (rs := [8]) (by kernel_rfl) (by simp) (AllS.cons rfl (fun K hK => ?_) AllS.nil)
            rw [if_pos (by rfl)]
            refine wp_store_mid 61 (.tmp 5) (.tmp 17) rfl ba 0 (bls (trivB m)).toArray rfl rfl (by rw [List.size_toArray]; exact (hM.at 0 rfl).there 0 _ (by simp [bls])) (by rw [List.size_toArray]; exact HI.out) (all_oneCell_toArray H1.out) ?_
            refine Shut.abs hK (fun W => Mm w.heap.size w W [(ba, bls (trivB m), 61), (be, [], 57), (w.heap.size, m.cells, 28)] []) (hM.setAll 0 rfl (vs := bls (trivB m)) (by simp [bls])) (fun W h => h.mach 2 rfl) ?_
            clear hK K hM hU
            rintro W hM hU
            (try simp only [Act.put, List.setIfInBounds_toArray, List.set_cons_zero, List.set_cons_succ])
            refine AnyS.branch (rs := [9]) (by kernel_rfl) (by simp) (AllS.cons rfl (fun K hK => ?_) AllS.nil)
            go_simp
            refine Shut.abs hK (fun W => Mm w.heap.size w W [(ba, bls (trivB m), 61), (be, [], 57), (w.heap.size, m.cells, 28)] []) hM (fun W h => h.mach 2 rfl) ?_
            clear hK K hM hU
            rintro W hM hU
            (try simp only [Act.put, List.setIfInBounds_toArray, List.set_cons_zero, List.set_cons_succ])
            refine AnyS.branch (rs := [10]) (by kernel_rfl) (by simp) (AllS.cons rfl (fun K hK => ?_) AllS.nil)
            go_simp
            refine Shut.abs hK (fun W => Mm w.heap.size w W [(ba, bls (trivB m), 61), (be, [], 57), (w.heap.size, m.cells, 28)] []) hM (fun W h => h.mach 2 rfl) ?_
            clear hK K hM hU
            rintro W hM hU
            (try simp only [Act.put, List.setIfInBounds_toArray, List.set_cons_zero, List.set_cons_succ])
            refine AnyS.done (by kernel_rfl) ?_ _
            clear hU
            go_wp2_with fail
            go_meet
            case rel => exact ⟨ba, be, rfl, rfl, rfl, hM⟩
          · skip
            rw [if_pos (by rfl)]
            refine wp_store_mid 61 (.tmp 5) (.tmp 17) rfl ba 0 (bls (trivB m)).toArray rfl rfl (by rw [List.size_toArray]; exact (hM.at 0 rfl).there 0 _ (by simp [bls])) (by rw [List.size_toArray]; exact HI.out) (all_oneCell_toArray H1.out) ?_
            refine Shut.abs hK (fun W => Mm w.heap.size w W [(ba, bls (trivB m), 61), (w.heap.size, m.cells, 28)] []) (hM.setAll 0 rfl (vs := bls (trivB m)) (by simp [bls])) (fun W h => h.mach 1 rfl) ?_
            clear hK K hM hU
            rintro W hM hU
            (try simp only [Act.put, List.setIfInBounds_toArray, List.set_cons_zero, List.set_cons_succ])
            refine AnyS.branch (rs := [6, 9]) (by kernel_rfl) (by simp) (AllS.cons rfl (fun K hK => ?_) (AllS.cons rfl (fun K hK => ?_) AllS.nil))
            · skip
              go_simp
              obtain ⟨be, ebe⟩ : ∃ be, be = W.heap.size := ⟨_, rfl⟩
              rw [← ebe]
              have h6 := hM.alloc #[] 57
              rw [← ebe] at h6
              refine Shut.abs hK (fun W => Mm w.heap.size w W [(ba, bls (trivB m), 61), (be, [], 57), (w.heap.size, m.cells, 28)] []) (h6.permL (List.Perm.swap _ _ _)) (fun W h => h.mach 2 rfl) ?_
              clear hK K hM hU h6 ebe
              rintro W hM hU
              (try simp only [Act.put, List.setIfInBounds_toArray, List.set_cons_zero, List.set_cons_succ])
              refine AnyS.branch (rs := [9]) (by kernel_rfl) (by simp) (AllS.cons rfl (fun K hK => ?_) AllS.nil)
              go_simp
              refine Shut.abs hK (fun W => Mm w.heap.size w W [(ba, bls (trivB m), 61), (be, [], 57), (w.heap.size, m.cells, 28)] []) hM (fun W h => h.mach 2 rfl) ?_
              clear hK K hM hU
              rintro W hM hU
              (try simp only [Act.put, List.setIfInBounds_toArray, List.set_cons_zero, List.set_cons_succ])
              refine AnyS.branch (rs := [10]) (by kernel_rfl) (by simp) (AllS.cons rfl (fun K hK => ?_) AllS.nil)
              go_simp
              refine Shut.abs hK (fun W => Mm w.heap.size w W [(ba, bls (trivB m), 61), (be, [], 57), (w.heap.size, m.cells, 28)] []) hM (fun W h => h.mach 2 rfl) ?_
              clear hK K hM hU
              rintro W hM hU
              (try simp only [Act.put, List.setIfInBounds_toArray, List.set_cons_zero, List.set_cons_succ])
              refine AnyS.done (by kernel_rfl) ?_ _
              clear hU
              go_wp2_with fail
              go_meet
              case rel => exact ⟨ba, be, rfl, rfl, rfl, hM⟩
            · skip
              go_simp
              refine Shut.abs hK (fun W => Mm w.heap.size w W [(ba, bls (trivB m), 61), (w.heap.size, m.cells, 28)] []) hM (fun W h => h.mach 1 rfl) ?_
              clear hK K hM hU
              rintro W hM hU
              (try simp only [Act.put, List.setIfInBounds_toArray, List.set_cons_zero, List.set_cons_succ])
              refine AnyS.branch (rs := [6]) (by kernel_rfl) (by simp) (AllS.cons rfl (fun K hK => ?_) AllS.nil)
              go_simp
              obtain ⟨be, ebe⟩ : ∃ be, be = W.heap.size := ⟨_, rfl⟩
              rw [← ebe]
              have h6 := hM.alloc #[] 57
              rw [← ebe] at h6
              refine Shut.abs hK (fun W => Mm w.heap.size w W [(ba, bls (trivB m), 61), (be, [], 57), (w.heap.size, m.cells, 28)] []) (h6.permL (List.Perm.swap _ _ _)) (fun W h => h.mach 2 rfl) ?_
              clear hK K hM hU h6 ebe
              rintro W hM hU
              (try simp only [Act.put, List.setIfInBounds_toArray, List.set_cons_zero, List.set_cons_succ])
              refine AnyS.branch (rs := [10]) (by kernel_rfl) (by simp) (AllS.cons rfl (fun K hK => ?_) AllS.nil)
              go_simp
              refine Shut.abs hK (fun W => Mm w.heap.size w W [(ba, bls (trivB m), 61), (be, [], 57), (w.heap.size, m.cells, 28)] []) hM (fun W h => h.mach 2 rfl) ?_
              clear hK K hM hU
              rintro W hM hU
              (try simp only [Act.put, List.setIfInBounds_toArray, List.set_cons_zero, List.set_cons_succ])
              refine AnyS.done (by kernel_rfl) ?_ _
              clear hU
              go_wp2_with fail
              go_meet
              case rel => exact ⟨ba, be, rfl, rfl, rfl, hM⟩
        · skip
          go_simp
          obtain ⟨be, ebe⟩ : ∃ be, be = W.heap.size := ⟨_, rfl⟩
          rw [← ebe]
          have h6 := hM.alloc #[] 57
          rw [← ebe] at h6
          refine Shut.abs hK (fun W => Mm w.heap.size w W [(ba, [.bool false, .bool false, .bool false, .bool false, .bool false, .bool false, .bool false, .bool false, .bool false, .bool false, .bool false, .bool false, .bool false, .bool false, .bool false, .bool false], 61), (be, [], 57), (w.heap.size, m.cells, 28)] []) (h6.permL (List.Perm.swap _ _ _)) (fun W h => h.mach 2 rfl) ?_
          clear hK K hM hU h6 ebe
          rintro W hM hU
          (try simp only [Act.put, List.setIfInBounds_toArray, List.set_cons_zero, List.set_cons_succ])
          refine AnyS.branch (rs := [5]) (by kernel_rfl) (by simp) (AllS.cons rfl (fun K hK => ?_) AllS.nil)
          go_simp
          refine (HPOW.out _).mono ?_
          rintro e W1 ⟨rfl, rfl⟩
          refine Shut.abs hK (fun W => Mm w.heap.size w W [(ba, [.bool false, .bool false, .bool false, .bool false, .bool false, .bool false, .bool false, .bool false, .bool false, .bool false, .bool false, .bool false, .bool false, .bool false, .bool false, .bool false], 61), (be, [], 57), (w.heap.size, m.cells, 28)] []) hM (fun W h => h.mach 2 rfl) ?_
          clear hK K hM hU
          rintro W hM hU
          (try simp only [Act.put, List.setIfInBounds_toArray, List.set_cons_zero, List.set_cons_succ])
          refine AnyS.branch (rs := [8]) (by kernel_rfl) (by simp) (AllS.cons rfl (fun K hK => ?_) AllS.nil)
          rw [if_pos (by rfl)]
          refine wp_store_mid 61 (.tmp 5) (.tmp 17) rfl ba 0 (bls (trivB m)).toArray rfl rfl (by rw [List.size_toArray]; exact (hM.at 0 rfl).there 0 _ (by simp [bls])) (by rw [List.size_toArray]; exact HI.out) (all_oneCell_toArray H1.out) ?_
          refine Shut.abs hK (fun W => Mm w.heap.size w W [(ba, bls (trivB m), 61), (be, [], 57), (w.heap.size, m.cells, 28)] []) (hM.setAll 0 rfl (vs := bls (trivB m)) (by simp [bls])) (fun W h => h.mach 2 rfl) ?_
          clear hK K hM hU
          rintro W hM hU
          (try simp only [Act.put, List.setIfInBounds_toArray, List.set_cons_zero, List.set_cons_succ])
          refine AnyS.branch (rs := [9]) (by kernel_rfl) (by simp) (AllS.cons rfl (fun K hK => ?_) AllS.nil)
          go_simp
          refine Shut.abs hK (fun W => Mm w.heap.size w W [(ba, bls (trivB m), 61), (be, [], 57), (w.heap.size, m.cells, 28)] []) hM (fun W h => h.mach 2 rfl) ?_
          clear hK K hM hU
          rintro W hM hU
          (try simp only [Act.put, List.setIfInBounds_toArray, List.set_cons_zero, List.set_cons_succ])
          refine AnyS.branch (rs := [10]) (by kernel_rfl) (by simp) (AllS.cons rfl (fun K hK => ?_) AllS.nil)
          go_simp
          refine Shut.abs hK (fun W => Mm w.heap.size w W [(ba, bls (trivB m), 61), (be, [], 57), (w.heap.size, m.cells, 28)] []) hM (fun W h => h.mach 2 rfl) ?_
          clear hK K hM hU
          rintro W hM hU
          (try simp only [Act.put, List.setIfInBounds_toArray, List.set_cons_zero, List.set_cons_succ])
          refine AnyS.done (by kernel_rfl) ?_ _
          clear hU
          go_wp2_with fail
          go_meet
          case rel => exact ⟨ba, be, rfl, rfl, rfl, hM⟩
    · skip
      go_simp
      obtain ⟨be, ebe⟩ : ∃ be, be = W.heap.size := ⟨_, rfl⟩
      rw [← ebe]
      have h6 := hM.alloc #[] 57
      rw [← ebe] at h6
      refine Shut.abs hK (fun W => Mm w.heap.size w W [(be, [], 57), (w.heap.size, m.cells, 28)] []) h6 (fun W h => h.mach 1 rfl) ?_
      clear hK K hM hU h6 ebe
      rintro W hM hU
      (try simp only [Act.put, List.setIfInBounds_toArray, List.set_cons_zero, List.set_cons_succ])
      refine AnyS.branch (rs := [1, 7]) (by kernel_rfl) (by simp) (AllS.cons rfl (fun K hK => ?_) (AllS.cons rfl (fun K hK => ?_) AllS.nil))
      · skip
        go_simp
        refine (l01Trivial_any m hwf hok _).mono ?_
        rintro e W1 ⟨rfl, hb1⟩
        refine Shut.abs hK (fun W => Mm w.heap.size w W [(be, [], 57), (w.heap.size, m.cells, 28)] []) (hM.call hb1) (fun W h => h.mach 1 rfl) ?_
        clear hK K hM hU hb1
        rintro W hM hU
        (try simp only [Act.put, List.setIfInBounds_toArray, List.set_cons_zero, List.set_cons_succ])
        refine AnyS.branch (rs := [5, 7]) (by kernel_rfl) (by simp) (AllS.cons rfl (fun K hK => ?_) (AllS.cons rfl (fun K hK => ?_) AllS.nil))
        · skip
          go_simp
          refine (HPOW.out _).mono ?_
          rintro e W1 ⟨rfl, rfl⟩
          refine Shut.abs hK (fun W => Mm w.heap.size w W [(be, [], 57), (w.heap.size, m.cells, 28)] []) hM (fun W h => h.mach 1 rfl) ?_
          clear hK K hM hU
          rintro W hM hU
          (try simp only [Act.put, List.setIfInBounds_toArray, List.set_cons_zero, List.set_cons_succ])
          refine AnyS.branch (rs := [7]) (by kernel_rfl) (by simp) (AllS.cons rfl (fun K hK => ?_) AllS.nil)
          go_simp
          obtain ⟨ba, eba⟩ : ∃ ba, ba = W.heap.size := ⟨_, rfl⟩
          rw [← eba]
          have h7 := hM.alloc #[.bool false, .bool false, .bool false, .bool false, .bool false, .bool false, .bool false, .bool false, .bool false, .bool false, .bool false, .bool false, .bool false, .bool false, .bool false, .bool false] 61
          rw [← eba] at h7
          refine Shut.abs hK (fun W => Mm w.heap.size w W [(ba, [.bool false, .bool false, .bool false, .bool false, .bool false, .bool false, .bool false, .bool false, .bool false, .bool false, .bool false, .bool false, .bool false, .bool false, .bool false, .bool false], 61), (be, [], 57), (w.heap.size, m.cells, 28)] []) h7 (fun W h => h.mach 2 rfl) ?_
          clear hK K hM hU h7 eba
          rintro W hM hU
          (try simp only [Act.put, List.setIfInBounds_toArray, List.set_cons_zero, List.set_cons_succ])
          refine AnyS.branch (rs := [8]) (by kernel_rfl) (by simp) (AllS.cons rfl (fun K hK => ?_) AllS.nil)
          rw [if_pos (by rfl)]
          refine wp_store_mid 61 (.tmp 5) (.tmp 17) rfl ba 0 (bls (trivB m)).toArray rfl rfl (by rw [List.size_toArray]; exact (hM.at 0 rfl).there 0 _ (by simp [bls])) (by rw [List.size_toArray]; exact HI.out) (all_oneCell_toArray H1.out) ?_
          refine Shut.abs hK (fun W => Mm w.heap.size w W [(ba, bls (trivB m), 61), (be, [], 57), (w.heap.size, m.cells, 28)] []) (hM.setAll 0 rfl (vs := bls (trivB m)) (by simp [bls])) (fun W h => h.mach 2 rfl) ?_
          clear hK K hM hU
          rintro W hM hU
          (try simp only [Act.put, List.setIfInBounds_toArray, List.set_cons_zero, List.set_cons_succ])
          refine AnyS.branch (rs := [9]) (by kernel_rfl) (by simp) (AllS.cons rfl (fun K hK => ?_) AllS.nil)
          go_simp
          refine Shut.abs hK (fun W => Mm w.heap.size w W [(ba, bls (trivB m), 61), (be, [], 57), (w.heap.size, m.cells, 28)] []) hM (fun W h => h.mach 2 rfl) ?_
          clear hK K hM hU
          rintro W hM hU
          (try simp only [Act.put, List.setIfInBounds_toArray, List.set_cons_zero, List.set_cons_succ])
          refine AnyS.branch (rs := [10]) (by kernel_rfl) (by simp) (AllS.cons rfl (fun K hK => ?_) AllS.nil)
          go_simp
          refine Shut.abs hK (fun W => Mm w.heap.size w W [(ba, bls (trivB m), 61), (be, [], 57), (w.heap.size, m.cells, 28)] []) hM (fun W h => h.mach 2 rfl) ?_
          clear hK K hM hU
          rintro W hM hU
          (try simp only [Act.put, List.setIfInBounds_toArray, List.set_cons_zero, List.set_cons_succ])
          refine AnyS.done (by kernel_rfl) ?_ _
          clear hU
          go_wp2_with fail
          go_meet
          case rel => exact ⟨ba, be, rfl, rfl, rfl, hM⟩
        · skip
          go_simp
          obtain ⟨ba, eba⟩ : ∃ ba, ba = W.heap.size := ⟨_, rfl⟩
          rw [← eba]
          have h7 := hM.alloc #[.bool false, .bool false, .bool false, .bool false, .bool false, .bool false, .bool false, .bool false, .bool false, .bool false, .bool false, .bool false, .bool false, .bool false, .bool false, .bool false] 61
          rw [← eba] at h7
          refine Shut.abs hK (fun W => Mm w.heap.size w W [(ba, [.bool false, .bool false, .bool false, .bool false, .bool false, .bool false, .bool false, .bool false, .bool false, .bool false, .bool false, .bool false, .bool false, .bool false, .bool false, .bool false], 61), (be, [], 57), (w.heap.size, m.cells, 28)] []) h7 (fun W h => h.mach 2 rfl) ?_
          clear hK K hM hU h7 eba
          rintro W hM hU
          (try simp only [Act.put, List.setIfInBounds_toArray, List.set_cons_zero, List.set_cons_succ])
          refine AnyS.branch (rs := [5]) (by kernel_rfl) (by simp) (AllS.cons rfl (fun K hK => ?_) AllS.nil)
          go_simp
          refine (HPOW.out _).mono ?_
          rintro e W1 ⟨rfl, rfl⟩
          refine Shut.abs hK (fun W => Mm w.heap.size w W [(ba, [.bool false, .bool false, .bool false, .bool false, .bool false, .bool false, .bool false, .bool false, .bool false, .bool false, .bool false, .bool false, .bool false, .bool false, .bool false, .bool false], 61), (be, [], 57), (w.heap.size, m.cells, 28)] []) hM (fun W h => h.mach 2 rfl) ?_
          clear hK K hM hU
          rintro W hM hU
          (try simp only [Act.put, List.setIfInBounds_toArray, List.set_cons_zero, List.set_cons_succ])
          refine AnyS.branch (rs := [8]) (by kernel_rfl) (by simp) (AllS.cons rfl (fun K hK => ?_) AllS.nil)
          rw [if_pos (by rfl)]
          refine wp_store_mid 61 (.tmp 5) (.tmp 17) rfl ba 0 (bls (trivB m)).toArray rfl rfl (by rw [List.size_toArray]; exact (hM.at 0 rfl).there 0 _ (by simp [bls])) (by rw [List.size_toArray]; exact HI.out) (all_oneCell_toArray H1.out) ?_
          refine Shut.abs hK (fun W => Mm w.heap.size w W [(ba, bls (trivB m), 61), (be, [], 57), (w.heap.size, m.cells, 28)] []) (hM.setAll 0 rfl (vs := bls (trivB m)) (by simp [bls])) (fun W h => h.mach 2 rfl) ?_
          clear hK K hM hU
          rintro W hM hU
          (try simp only [Act.put, List.setIfInBounds_toArray, List.set_cons_zero, List.set_cons_succ])
          refine AnyS.branch (rs := [9]) (by kernel_rfl) (by simp) (AllS.cons rfl (fun K hK => ?_) AllS.nil)
          go_simp
          refine Shut.abs hK (fun W => Mm w.heap.size w W [(ba, bls (trivB m), 61), (be, [], 57), (w.heap.size, m.cells, 28)] []) hM (fun W h => h.mach 2 rfl) ?_
          clear hK K hM hU
          rintro W hM hU
          (try simp only [Act.put, List.setIfInBounds_toArray, List.set_cons_zero, List.set_cons_succ])
          refine AnyS.branch (rs := [10]) (by kernel_rfl) (by simp) (AllS.cons rfl (fun K hK => ?_) AllS.nil)
          go_simp
          refine Shut.abs hK (fun W => Mm w.heap.size w W [(ba, bls (trivB m), 61), (be, [], 57), (w.heap.size, m.cells, 28)] []) hM (fun W h => h.mach 2 rfl) ?_
          clear hK K hM hU
          rintro W hM hU
          (try simp only [Act.put, List.setIfInBounds_toArray, List.set_cons_zero, List.set_cons_succ])
          refine AnyS.done (by kernel_rfl) ?_ _
          clear hU
          go_wp2_with fail
          go_meet
          case rel => exact ⟨ba, be, rfl, rfl, rfl, hM⟩
      · skip
        go_simp
        obtain ⟨ba, eba⟩ : ∃ ba, ba = W.heap.size := ⟨_, rfl⟩
        rw [← eba]
        have h7 := hM.alloc #[.bool false, .bool false, .bool false, .bool false, .bool false, .bool false, .bool false, .bool false, .bool false, .bool false, .bool false, .bool false, .bool false, .bool false, .bool false, .bool false] 61
        rw [← eba] at h7
        refine Shut.abs hK (fun W => Mm w.heap.size w W [(ba, [.bool false, .bool false, .bool false, .bool false, .bool false, .bool false, .bool false, .bool false, .bool false, .bool false, .bool false, .bool false, .bool false, .bool false, .bool false, .bool false], 61), (be, [], 57), (w.heap.size, m.cells, 28)] []) h7 (fun W h => h.mach 2 rfl) ?_
        clear hK K hM hU h7 eba
        rintro W hM hU
        (try simp only [Act.put, List.setIfInBounds_toArray, List.set_cons_zero, List.set_cons_succ])
        refine AnyS.branch (rs := [1]) (by kernel_rfl) (by simp) (AllS.cons rfl (fun K hK => ?_) AllS.nil)
        go_simp
        refine (l01Trivial_any m hwf hok _).mono ?_
        rintro e W1 ⟨rfl, hb1⟩
        refine Shut.abs hK (fun W => Mm w.heap.size w W [(ba, [.bool false, .bool false, .bool false, .bool false, .bool false, .bool false, .bool false, .bool false, .bool false, .bool false, .bool false, .bool false, .bool false, .bool false, .bool false, .bool false], 61), (be, [], 57), (w.heap.size, m.cells, 28)] []) (hM.call hb1) (fun W h => h.mach 2 rfl) ?_
        clear hK K hM hU hb1
        rintro W hM hU
        (try simp only [Act.put, List.setIfInBounds_toArray, List.set_cons_zero, List.set_cons_succ])
        refine AnyS.branch (rs := [5]) (by kernel_rfl) (by simp) (AllS.cons rfl (fun K hK => ?_) AllS.nil)
        go_simp
        refine (HPOW.out _).mono ?_
        rintro e W1 ⟨rfl, rfl⟩
        refine Shut.abs hK (fun W => Mm w.heap.size w W [(ba, [.bool false, .bool false, .bool false, .bool false, .bool false, .bool false, .bool false, .bool false, .bool false, .bool false, .bool false, .bool false, .bool false, .bool false, .bool false, .bool false], 61), (be, [], 57), (w.heap.size, m.cells, 28)] []) hM (fun W h => h.mach 2 rfl) ?_
        clear hK K hM hU
        rintro W hM hU
        (try simp only [Act.put, List.setIfInBounds_toArray, List.set_cons_zero, List.set_cons_succ])
        refine AnyS.branch (rs := [8]) (by kernel_rfl) (by simp) (AllS.cons rfl (fun K hK => ?_) AllS.nil)
        rw [if_pos (by rfl)]
        refine wp_store_mid 61 (.tmp 5) (.tmp 17) rfl ba 0 (bls (trivB m)).toArray rfl rfl (by rw [List.size_toArray]; exact (hM.at 0 rfl).there 0 _ (by simp [bls])) (by rw [List.size_toArray]; exact HI.out) (all_oneCell_toArray H1.out) ?_
        refine Shut.abs hK (fun W => Mm w.heap.size w W [(ba, bls (trivB m), 61), (be, [], 57), (w.heap.size, m.cells, 28)] []) (hM.setAll 0 rfl (vs := bls (trivB m)) (by simp [bls])) (fun W h => h.mach 2 rfl) ?_
        clear hK K hM hU
        rintro W hM hU
        (try simp only [Act.put, List.setIfInBounds_toArray, List.set_cons_zero, List.set_cons_succ])
        refine AnyS.branch (rs := [9]) (by kernel_rfl) (by simp) (AllS.cons rfl (fun K hK => ?_) AllS.nil)
        go_simp
        refine Shut.abs hK (fun W => Mm w.heap.size w W [(ba, bls (trivB m), 61), (be, [], 57), (w.heap.size, m.cells, 28)] []) hM (fun W h => h.mach 2 rfl) ?_
        clear hK K hM hU
        rintro W hM hU
        (try simp only [Act.put, List.setIfInBounds_toArray, List.set_cons_zero, List.set_cons_succ])
        refine AnyS.branch (rs := [10]) (by kernel_rfl) (by simp) (AllS.cons rfl (fun K hK => ?_) AllS.nil)
        go_simp
        refine Shut.abs hK (fun W => Mm w.heap.size w W [(ba, bls (trivB m), 61), (be, [], 57), (w.heap.size, m.cells, 28)] []) hM (fun W h => h.mach 2 rfl) ?_
        clear hK K hM hU
        rintro W hM hU
        (try simp only [Act.put, List.setIfInBounds_toArray, List.set_cons_zero, List.set_cons_succ])
        refine AnyS.done (by kernel_rfl) ?_ _
        clear hU
        go_wp2_with fail
        go_meet
        case rel => exact ⟨ba, be, rfl, rfl, rfl, hM⟩
    · skip
      go_simp
      obtain ⟨ba, eba⟩ : ∃ ba, ba = W.heap.size := ⟨_, rfl⟩
      rw [← eba]
      have h7 := hM.alloc #[.bool false, .bool false, .bool false, .bool false, .bool false, .bool false, .bool false, .bool false, .bool false, .bool false, .bool false, .bool false, .bool false, .bool false, .bool false, .bool false] 61
      rw [← eba] at h7
      refine Shut.abs hK (fun W => Mm w.heap.size w W [(ba, [.bool false, .bool false, .bool false, .bool false, .bool false, .bool false, .bool false, .bool false, .bool false, .bool false, .bool false, .bool false, .bool false, .bool false, .bool false, .bool false], 61), (w.heap.size, m.cells, 28)] []) h7 (fun W h => h.mach 1 rfl) ?_
      clear hK K hM hU h7 eba
      rintro W hM hU
      (try simp only [Act.put, List.setIfInBounds_toArray, List.set_cons_zero, List.set_cons_succ])
      refine AnyS.branch (rs := [1, 6]) (by kernel_rfl) (by simp) (AllS.cons rfl (fun K hK => ?_) (AllS.cons rfl (fun K hK => ?_) AllS.nil))
      · skip
        go_simp
        refine (l01Trivial_any m hwf hok _).mono ?_
        rintro e W1 ⟨rfl, hb1⟩
        refine Shut.abs hK (fun W => Mm w.heap.size w W [(ba, [.bool false, .bool false, .bool false, .bool false, .bool false, .bool false, .bool false, .bool false, .bool false, .bool false, .bool false, .bool false, .bool false, .bool false, .bool false, .bool false], 61), (w.heap.size, m.cells, 28)] []) (hM.call hb1) (fun W h => h.mach 1 rfl) ?_
        clear hK K hM hU hb1
        rintro W hM hU
        (try simp only [Act.put, List.setIfInBounds_toArray, List.set_cons_zero, List.set_cons_succ])
        refine AnyS.branch (rs := [5, 6]) (by kernel_rfl) (by simp) (AllS.cons rfl (fun K hK => ?_) (AllS.cons rfl (fun K hK => ?_) AllS.nil))
        · skip
          go_simp
          refine (HPOW.out _).mono ?_
          rintro e W1 ⟨rfl, rfl⟩
          refine Shut.abs hK (fun W => Mm w.heap.size w W [(ba, [.bool false, .bool false, .bool false, .bool false, .bool false, .bool false, .bool false, .bool false, .bool false, .bool false, .bool false, .bool false, .bool false, .bool false, .bool false, .bool false], 61), (w.heap.size, m.cells, 28)] []) hM (fun W h => h.mach 1 rfl) ?_
          clear hK K hM hU
          rintro W hM hU
          (try simp only [Act.put, List.setIfInBounds_toArray, List.set_cons_zero, List.set_cons_succ])
          refine AnyS.branch (rs := [6, 8]) (by kernel_rfl) (by simp) (AllS.cons rfl (fun K hK => ?_) (AllS.cons rfl (fun K hK => ?_) AllS.nil))
          · skip
            go_simp
            obtain ⟨be, ebe⟩ : ∃ be, be = W.heap.size := ⟨_, rfl⟩
            rw [← ebe]
            have h6 := hM.alloc #[] 57
            rw [← ebe] at h6
            refine Shut.abs hK (fun W => Mm w.heap.size w W [(ba, [.bool false, .bool false, .bool false, .bool false, .bool false, .bool false, .bool false, .bool false, .bool false, .bool false, .bool false, .bool false, .bool false, .bool false, .bool false, .bool false], 61), (be, [], 57), (w.heap.size, m.cells, 28)] []) (h6.permL (List.Perm.swap _ _ _)) (fun W h => h.mach 2 rfl) ?_
            clear hK K hM hU h6 ebe
            rintro W hM hU
            (try simp only [Act.put, List.setIfInBounds_toArray, List.set_cons_zero, List.set_cons_succ])
            refine AnyS.branch (rs := [8]) (by kernel_rfl) (by simp) (AllS.cons rfl (fun K hK => ?_) AllS.nil)
            rw [if_pos (by rfl)]
            refine wp_store_mid 61 (.tmp 5) (.tmp 17) rfl ba 0 (bls (trivB m)).toArray rfl rfl (by rw [List.size_toArray]; exact (hM.at 0 rfl).there 0 _ (by simp [bls])) (by rw [List.size_toArray]; exact HI.out) (all_oneCell_toArray H1.out) ?_
            refine Shut.abs hK (fun W => Mm w.heap.size w W [(ba, bls (trivB m), 61), (be, [], 57), (w.heap.size, m.cells, 28)] []) (hM.setAll 0 rfl (vs := bls (trivB m)) (by simp [bls])) (fun W h => h.mach 2 rfl) ?_
            clear hK K hM hU
            rintro W hM hU
            (try simp only [Act.put, List.setIfInBounds_toArray, List.set_cons_zero, List.set_cons_succ])
            refine AnyS.branch (rs := [9]) (by kernel_rfl) (by simp) (AllS.cons rfl (fun K hK => ?_) AllS.nil)
            go_simp
            refine Shut.abs hK (fun W => Mm w.heap.size w W [(ba, bls (trivB m), 61), (be, [], 57), (w.heap.size, m.cells, 28)] []) hM (fun W h => h.mach 2 rfl) ?_
            clear hK K hM hU
            rintro W hM hU
            (try simp only [Act.put, List.setIfInBounds_toArray, List.set_cons_zero, List.set_cons_succ])
            refine AnyS.branch (rs := [10]) (by kernel_rfl) (by simp) (AllS.cons rfl (fun K hK => ?_) AllS.nil)
            go_simp
            refine Shut.abs hK (fun W => Mm w.heap.size w W [(ba, bls (trivB m), 61), (be, [], 57), (w.heap.size, m.cells, 28)] []) hM (fun W h => h.mach 2 rfl) ?_
            clear hK K hM hU
            rintro W hM hU
            (try simp only [Act.put, List.setIfInBounds_toArray, List.set_cons_zero, List.set_cons_succ])
            refine AnyS.done (by kernel_rfl) ?_ _
            clear hU
            go_wp2_with fail
            go_meet
            case rel => exact ⟨ba, be, rfl, rfl, rfl, hM⟩
          · skip
            rw [if_pos (by rfl)]
            refine wp_store_mid 61 (.tmp 5) (.tmp 17) rfl ba 0 (bls (trivB m)).toArray rfl rfl (by rw [List.size_toArray]; exact (hM.at 0 rfl).there 0 _ (by simp [bls])) (by rw [List.size_toArray]; exact HI.out) (all_oneCell_toArray H1.out) ?_
            refine Shut.abs hK (fun W => Mm w.heap.size w W [(ba, bls (trivB m), 61), (w.heap.size, m.cells, 28)] []) (hM.setAll 0 rfl (vs := bls (trivB m)) (by simp [bls])) (fun W h => h.mach 1 rfl) ?_
            clear hK K hM hU
            rintro W hM hU
            (try simp only [Act.put, List.setIfInBounds_toArray, List.set_cons_zero, List.set_cons_succ])
            refine AnyS.branch (rs := [6, 9]) (by kernel_rfl) (by simp) (AllS.cons rfl (fun K hK => ?_) (AllS.cons rfl (fun K hK => ?_) AllS.nil))
            · skip
              go_simp
              obtain ⟨be, ebe⟩ : ∃ be, be = W.heap.size := ⟨_, rfl⟩
              rw [← ebe]
              have h6 := hM.alloc #[] 57
              rw [← ebe] at h6
              refine Shut.abs hK (fun W => Mm w.heap.size w W [(ba, bls (trivB m), 61), (be, [], 57), (w.heap.size, m.cells, 28)] []) (h6.permL (List.Perm.swap _ _ _)) (fun W h => h.mach 2 rfl) ?_
              clear hK K hM hU h6 ebe
              rintro W hM hU
              (try simp only [Act.put, List.setIfInBounds_toArray, List.set_cons_zero, List.set_cons_succ])
              refine AnyS.branch (rs := [9]) (by kernel_rfl) (by simp) (AllS.cons rfl (fun K hK => ?_) AllS.nil)
              go_simp
              refine Shut.abs hK (fun W => Mm w.heap.size w W [(ba, bls (trivB m), 61), (be, [], 57), (w.heap.size, m.cells, 28)] []) hM (fun W h => h.mach 2 rfl) ?_
              clear hK K hM hU
              rintro W hM hU
              (try simp only [Act.put, List.setIfInBounds_toArray, List.set_cons_zero, List.set_cons_succ])
              refine AnyS.branch (rs := [10]) (by kernel_rfl) (by simp) (AllS.cons rfl (fun K hK => ?_) AllS.nil)
              go_simp
              refine Shut.abs hK (fun W => Mm w.heap.size w W [(ba, bls (trivB m), 61), (be, [], 57), (w.heap.size, m.cells, 28)] []) hM (fun W h => h.mach 2 rfl) ?_
              clear hK K hM hU
              rintro W hM hU
              (try simp only [Act.put, List.setIfInBounds_toArray, List.set_cons_zero, List.set_cons_succ])
              refine AnyS.done (by kernel_rfl) ?_ _
              clear hU
              go_wp2_with fail
              go_meet
              case rel => exact ⟨ba, be, rfl, rfl, rfl, hM⟩
            · skip
              go_simp
              refine Shut.abs hK (fun W => Mm w.heap.size w W [(ba, bls (trivB m), 61), (w.heap.size, m.cells, 28)] []) hM (fun W h => h.mach 1 rfl) ?_
              clear hK K hM hU
              rintro W hM hU
              (try simp only [Act.put, List.setIfInBounds_toArray, List.set_cons_zero, List.set_cons_succ])
              refine AnyS.branch (rs := [6]) (by kernel_rfl) (by simp) (AllS.cons rfl (fun K hK => ?_) AllS.nil)
              go_simp
              obtain ⟨be, ebe⟩ : ∃ be, be = W.heap.size := ⟨_, rfl⟩
              rw [← ebe]
              have h6 := hM.alloc #[] 57
              rw [← ebe] at h6
              refine Shut.abs hK (fun W => Mm w.heap.size w W [(ba, bls (trivB m), 61), (be, [], 57), (w.heap.size, m.cells, 28)] []) (h6.permL (List.Perm.swap _ _ _)) (fun W h => h.mach 2 rfl) ?_
              clear hK K hM hU h6 ebe
              rintro W hM hU
              (try simp only [Act.put, List.setIfInBounds_toArray, List.set_cons_zero, List.set_cons_succ])
              refine AnyS.branch (rs := [10]) (by kernel_rfl) (by simp) (AllS.cons rfl (fun K hK => ?_) AllS.nil)
              go_simp
              refine Shut.abs hK (fun W => Mm w.heap.size w W [(ba, bls (trivB m), 61), (be, [], 57), (w.heap.size, m.cells, 28)] []) hM (fun W h => h.mach 2 rfl) ?_
              clear hK K hM hU
              rintro W hM hU
              (try simp only [Act.put, List.setIfInBounds_toArray, List.set_cons_zero, List.set_cons_succ])
              refine AnyS.done (by kernel_rfl) ?_ _
              clear hU
              go_wp2_with fail
              go_meet
              case rel => exact ⟨ba, be, rfl, rfl, rfl, hM⟩
        · skip
          go_simp
          obtain ⟨be, ebe⟩ : ∃ be, be = W.heap.size := ⟨_, rfl⟩
          rw [← ebe]
          have h6 := hM.alloc #[] 57
          rw [← ebe] at h6
          refine Shut.abs hK (fun W => Mm w.heap.size w W [(ba, [.bool false, .bool false, .bool false, .bool false, .bool false, .bool false, .bool false, .bool false, .bool false, .bool false, .bool false, .bool false, .bool false, .bool false, .bool false, .bool false], 61), (be, [], 57), (w.heap.size, m.cells, 28)] []) (h6.permL (List.Perm.swap _ _ _)) (fun W h => h.mach 2 rfl) ?_
          clear hK K hM hU h6 ebe
          rintro W hM hU
          (try simp only [Act.put, List.setIfInBounds_toArray, List.set_cons_zero, List.set_cons_succ])
          refine AnyS.branch (rs := [5]) (by kernel_rfl) (by simp) (AllS.cons rfl (fun K hK => ?_) AllS.nil)
          go_simp
          refine (HPOW.out _).mono ?_
          rintro e W1 ⟨rfl, rfl⟩
          refine Shut.abs hK (fun W => Mm w.heap.size w W [(ba, [.bool false, .bool false, .bool false, .bool false, .bool false, .bool false, .bool false, .bool false, .bool false, .bool false, .bool false, .bool false, .bool false, .bool false, .bool false, .bool false], 61), (be, [], 57), (w.heap.size, m.cells, 28)] []) hM (fun W h => h.mach 2 rfl) ?_
          clear hK K hM hU
          rintro W hM hU
          (try simp only [Act.put, List.setIfInBounds_toArray, List.set_cons_zero, List.set_cons_succ])
          refine AnyS.branch (rs := [8]) (by kernel_rfl) (by simp) (AllS.cons rfl (fun K hK => ?_) AllS.nil)
          rw [if_pos (by rfl)]
          refine wp_store_mid 61 (.tmp 5) (.tmp 17) rfl ba 0 (bls (trivB m)).toArray rfl rfl (by rw [List.size_toArray]; exact (hM.at 0 rfl).there 0 _ (by simp [bls])) (by rw [List.size_toArray]; exact HI.out) (all_oneCell_toArray H1.out) ?_
          refine Shut.abs hK (fun W => Mm w.heap.size w W [(ba, bls (trivB m), 61), (be, [], 57), (w.heap.size, m.cells, 28)] []) (hM.setAll 0 rfl (vs := bls (trivB m)) (by simp [bls])) (fun W h => h.mach 2 rfl) ?_
          clear hK K hM hU
          rintro W hM hU
          (try simp only [Act.put, List.setIfInBounds_toArray, List.set_cons_zero, List.set_cons_succ])
          refine AnyS.branch (rs := [9]) (by kernel_rfl) (by simp) (AllS.cons rfl (fun K hK => ?_) AllS.nil)
          go_simp
          refine Shut.abs hK (fun W => Mm w.heap.size w W [(ba, bls (trivB m), 61), (be, [], 57), (w.heap.size, m.cells, 28)] []) hM (fun W h => h.mach 2 rfl) ?_
          clear hK K hM hU
          rintro W hM hU
          (try simp only [Act.put, List.setIfInBounds_toArray, List.set_cons_zero, List.set_cons_succ])
          refine AnyS.branch (rs := [10]) (by kernel_rfl) (by simp) (AllS.cons rfl (fun K hK => ?_) AllS.nil)
          go_simp
          refine Shut.abs hK (fun W => Mm w.heap.size w W [(ba, bls (trivB m), 61), (be, [], 57), (w.heap.size, m.cells, 28)] []) hM (fun W h => h.mach 2 rfl) ?_
          clear hK K hM hU
          rintro W hM hU
          (try simp only [Act.put, List.setIfInBounds_toArray, List.set_cons_zero, List.set_cons_succ])
          refine AnyS.done (by kernel_rfl) ?_ _
          clear hU
          go_wp2_with fail
          go_meet
          case rel => exact ⟨ba, be, rfl, rfl, rfl, hM⟩
      · skip
        go_simp
        obtain ⟨be, ebe⟩ : ∃ be, be = W.heap.size := ⟨_, rfl⟩
        rw [← ebe]
        have h6 := hM.alloc #[] 57
        rw [← ebe] at h6
        refine Shut.abs hK (fun W => Mm w.heap.size w W [(ba, [.bool false, .bool false, .bool false, .bool false, .bool false, .bool false, .bool false, .bool false, .bool false, .bool false, .bool false, .bool false, .bool false, .bool false, .bool false, .bool false], 61), (be, [], 57), (w.heap.size, m.cells, 28)] []) (h6.permL (List.Perm.swap _ _ _)) (fun W h => h.mach 2 rfl) ?_
        clear hK K hM hU h6 ebe
        rintro W hM hU
        (try simp only [Act.put, List.setIfInBounds_toArray, List.set_cons_zero, List.set_cons_succ])
        refine AnyS.branch (rs := [1]) (by kernel_rfl) (by simp) (AllS.cons rfl (fun K hK => ?_) AllS.nil)
        go_simp
        refine (l01Trivial_any m hwf hok _).mono ?_
        rintro e W1 ⟨rfl, hb1⟩
        refine Shut.abs hK (fun W => Mm w.heap.size w W [(ba, [.bool false, .bool false, .bool false, .bool false, .bool false, .bool false, .bool false, .bool false, .bool false, .bool false, .bool false, .bool false, .bool false, .bool false, .bool false, .bool false], 61), (be, [], 57), (w.heap.size, m.cells, 28)] []) (hM.call hb1) (fun W h => h.mach 2 rfl) ?_
        clear hK K hM hU hb1
        rintro W hM hU
        (try simp only [Act.put, List.setIfInBounds_toArray, List.set_cons_zero, List.set_cons_succ])
        refine AnyS.branch (rs := [5]) (by kernel_rfl) (by simp) (AllS.cons rfl (fun K hK => ?_) AllS.nil)
        go_simp
        refine (HPOW.out _).mono ?_
        rintro e W1 ⟨rfl, rfl⟩
        refine Shut.abs hK (fun W => Mm w.heap.size w W [(ba, [.bool false, .bool false, .bool false, .bool false, .bool false, .bool false, .bool false, .bool false, .bool false, .bool false, .bool false, .bool false, .bool false, .bool false, .bool false, .bool false], 61), (be, [], 57), (w.heap.size, m.cells, 28)] []) hM (fun W h => h.mach 2 rfl) ?_
        clear hK K hM hU
        rintro W hM hU
        (try simp only [Act.put, List.setIfInBounds_toArray, List.set_cons_zero, List.set_cons_succ])
        refine AnyS.branch (rs := [8]) (by kernel_rfl) (by simp) (AllS.cons rfl (fun K hK => ?_) AllS.nil)
        rw [if_pos (by rfl)]
        refine wp_store_mid 61 (.tmp 5) (.tmp 17) rfl ba 0 (bls (trivB m)).toArray rfl rfl (by rw [List.size_toArray]; exact (hM.at 0 rfl).there 0 _ (by simp [bls])) (by rw [List.size_toArray]; exact HI.out) (all_oneCell_toArray H1.out) ?_
        refine Shut.abs hK (fun W => Mm w.heap.size w W [(ba, bls (trivB m), 61), (be, [], 57), (w.heap.size, m.cells, 28)] []) (hM.setAll 0 rfl (vs := bls (trivB m)) (by simp [bls])) (fun W h => h.mach 2 rfl) ?_
        clear hK K hM hU
        rintro W hM hU
        (try simp only [Act.put, List.setIfInBounds_toArray, List.set_cons_zero, List.set_cons_succ])
        refine AnyS.branch (rs := [9]) (by kernel_rfl) (by simp) (AllS.cons rfl (fun K hK => ?_) AllS.nil)
        go_simp
        refine Shut.abs hK (fun W => Mm w.heap.size w W [(ba, bls (trivB m), 61), (be, [], 57), (w.heap.size, m.cells, 28)] []) hM (fun W h => h.mach 2 rfl) ?_
        clear hK K hM hU
        rintro W hM hU
        (try simp only [Act.put, List.setIfInBounds_toArray, List.set_cons_zero, List.set_cons_succ])
        refine AnyS.branch (rs := [10]) (by kernel_rfl) (by simp) (AllS.cons rfl (fun K hK => ?_) AllS.nil)
        go_simp
        refine Shut.abs hK (fun W => Mm w.heap.size w W [(ba, bls (trivB m), 61), (be, [], 57), (w.heap.size, m.cells, 28)] []) hM (fun W h => h.mach 2 rfl) ?_
        clear hK K hM hU
        rintro W hM hU
        (try simp only [Act.put, List.setIfInBounds_toArray, List.set_cons_zero, List.set_cons_succ])
        refine AnyS.done (by kernel_rfl) ?_ _
        clear hU
        go_wp2_with fail
        go_meet
        case rel => exact ⟨ba, be, rfl, rfl, rfl, hM⟩
  case rest =>
    obtain ⟨ba, be, rfl, rfl, rfl, hM⟩ := hcut
    clear hM0
    have hM1 := hM.addOwn (b := be) (cs := []) (T := 57) (by simp) 0 rfl (by omega)
    have hne1 : ba ≠ be := (List.pairwise_cons.1 hM.dist).1 (be, [], 57) (by simp)
    have hne2 : w.heap.size ≠ be := fun e => (List.pairwise_cons.1 (List.pairwise_cons.1 hM.dist).2).1 (w.heap.size, m.cells, 28) (by simp) (by simp [e])
    rw [show (List.filter (fun x : Nat × List Value × TypeId => x.1 != be) [(ba, bls (trivB m), 61), (be, ([] : List Value), 57), (w.heap.size, m.cells, 28)]) = [(ba, bls (trivB m), 61), (w.heap.size, m.cells, 28)] from by simp [List.filter_cons, hne1, hne2]] at hM1
    clear hM hne1 hne2
    go_wp2_with fail
    go_loopw [7, 8] (fun v i wr => ∃ (k : Nat) (g : Nat → Nat), k ≤ P ∧ i = .int .i64 k ∧ Mm w.heap.size w wr ((ba, bls (trivB m), 61) :: (w.heap.size, m.cells, 28) :: rowsB g P k (fun _ _ => false)) [(v, 57, hdl g P k)]) (fun _ i _ => P - (intOf i).toNat)
    case atStart => exact ⟨0, fun _ => 0, Nat.zero_le _, rfl, by simpa [rowsB, hdl] using hM1⟩
    case round =>
      clear hM1
      obtain ⟨k, g, hk, rfl, hM⟩ := hrel
      by_cases hlt : k < P
      · have hmk := mk_bool P (by omega) wr
        have hM1 := hM.alloc (madeCells #[.bool false] P) 4
        rw [made_bool] at hM1
        have hlen : (hdl g P k).length ≤ 1000000 := by rw [hdl_len]; omega
        have i1 : (k : Int) < (P : Int) := by omega
        clear hM
        go_wp2_with (at_builtin; refine Mm.appendAt rfl (.tmp 28) (.tmp 31) 54 rfl hM1 0 rfl Try.underlying54 hi hz0 hz1 hz2 rfl rfl (wr.heap.size + 1) (World.size_alloc ..) rfl rfl hlen (by omega) ?_)
        intro g' cap' w3 hM3
        have HM3 : Hid (Mm w.heap.size w w3 ((ba, bls (trivB m), 61) :: (w.heap.size, m.cells, 28) :: rowsB (fun i => if i = k then wr.heap.size else g i) P (k + 1) (fun _ _ => false)) [(.slice (some ⟨g', 0, none⟩) ((hdl g P k).length + 1) cap', 57, hdl (fun i => if i = k then wr.heap.size else g i) P (k + 1))]) := by
          rw [rowsB_succ, hdl_succ]
          show Mm _ _ _ _ _
          exact hM3.permL (List.perm_append_singleton _ ((ba, bls (trivB m), 61) :: (w.heap.size, m.cells, 28) :: rowsB g P k (fun _ _ => false))).symm
        clear hM1 hM3 hmk
        go_wp2_with fail
        go_roundw
        case rel => exact ⟨k + 1, _, by omega, by go_num, HM3.out⟩
        case measure => simp [intOf] <;> omega
      · have hk' : k = P := by omega
        subst hk'
        have hk0 : 0 < k := by rw [HP.out]; exact Nat.pow_pos (by omega)
        have ho := hM.own _ (List.mem_cons_self ..)
        simp only [hdl_len] at ho
        obtain ⟨gv, cap, e, -, -, -⟩ := own_form ho hk0
        subst e
        clear ho
        have i0 : ¬ (k : Int) < (k : Int) := by omega
        go_wp2_with fail
        have HACT : Hid (∀ (q x : Nat) W, q < m.s → Calls Try.prog 61 #[.agg m.cells.toArray, .int .i64 q, .string (txt (digs m.l n x))] W fun e w' => e = .returned (.tuple #[.string (txt (wimg m n q x)), .int .i64 (wsec m n q x)]) ∧ Below W.heap.size W w') :=
          fun (q x : Nat) W hq => by have := l01Act_any m hwf hok q hq _ (word_lets hok n x) (by rw [txt_size, digs_length]; omega) W; rw [word_lts hok] at this; exact this
        have HWO : Hid (∀ (x : Nat) W, x ≤ 1000 → Calls Try.prog 62 #[.int .i64 m.l, .int .i64 n, .int .i64 x] W (Ret (.string (txt (digs m.l n x))) W)) := fun (x : Nat) W hx => l01WordOf_any m.l hl2 hl3 n x (by omega) (by omega) W
        go_loopw [9] (fun i wr => ∃ x : Nat, x ≤ k ∧ i = .int .i64 x ∧ Mm w.heap.size w wr ((ba, bls (trivB m), 61) :: (w.heap.size, m.cells, 28) :: rowsB g k k (tileK m n x)) [(.slice (some ⟨gv, 0, none⟩) k cap, 57, hdl g k k)]) (fun i _ => k - (intOf i).toNat)
        case atStart => exact ⟨0, Nat.zero_le _, rfl, hM⟩
        case round =>
          clear hM
          obtain ⟨x, hx, rfl, hM⟩ := hrel
          by_cases hxlt : x < k
          · have i1 : (x : Int) < (k : Int) := by omega
            go_wp2_with fail
            go_loopw [10] (fun i wi => ∃ q : Nat, q ≤ m.s ∧ i = .int .i64 q ∧ Mm w.heap.size w wi ((ba, bls (trivB m), 61) :: (w.heap.size, m.cells, 28) :: rowsB g k k (tileQ m n x (tileK m n x) q)) [(.slice (some ⟨gv, 0, none⟩) k cap, 57, hdl g k k)]) (fun i _ => m.s - (intOf i).toNat)
            case atStart => exact ⟨0, Nat.zero_le _, rfl, hM⟩
            case round =>
              clear hM
              obtain ⟨q, hq, rfl, hM⟩ := hrel
              have hcs : wr.cell? ⟨w.heap.size, 1, none⟩ = some (.int .i64 (m.s : Int)) := by rw [← hok.S_eq]; exact (hM.mach 1 rfl).s
              by_cases hqlt : q < m.s
              · have hmd := hM.drew.mach 1 rfl
                have HS : Hid (∀ W, Below wr.heap.size wr W → MAt W w.heap.size 0 m) := fun W hW => (hM.call hW).mach 1 rfl
                go_wp2_with fail
                refine region_S (fun W => MAt W w.heap.size 0 m) [] 13 rfl HMX.out hmd (fun hU => ?_)
                obtain ⟨W, hW⟩ : ∃ W, W = wr.drew := ⟨_, rfl⟩
                have hBW : Below wr.heap.size wr W := by rw [hW]; exact (Below.refl _ wr).drew
                rw [← hW] at hU ⊢
                clear hW hmd hcs
                (refine AnyS.takeS (i := 0) rfl (by kernel_rfl) (by kernel_rfl) (by kernel_rfl) (by rfl) (by kernel_rfl) (by kernel_rfl) (fun _ _ _ h => h) (by rfl) (fun W hW => run_ld Try.underlying28 rfl HMI.out (.tmp 2) rfl rfl hW) hU (fun hU => ?_); (try simp only [Act.put, List.setIfInBounds_toArray, List.set_cons_zero, List.set_cons_succ]))
                (refine AnyS.take (i := 1) rfl (by kernel_rfl) (by kernel_rfl) (by kernel_rfl) (by rfl) (fun _ _ _ h => h) (by rfl) (by intro w; go_simp; with_reducible rfl) hU (fun hU => ?_); (try simp only [Act.put, List.setIfInBounds_toArray, List.set_cons_zero, List.set_cons_succ]); refine AnyS.take (i := 2) rfl (by kernel_rfl) (by kernel_rfl) (by kernel_rfl) (by rfl) (fun _ _ _ h => h) (by rfl) (by intro w; go_simp; with_reducible rfl) hU (fun hU => ?_); (try simp only [Act.put, List.setIfInBounds_toArray, List.set_cons_zero, List.set_cons_succ]))
                (refine AnyS.takeS (i := 3) rfl (by kernel_rfl) (by kernel_rfl) (by kernel_rfl) (by rfl) (by kernel_rfl) (by kernel_rfl) (fun _ _ _ h => h) (by rfl) (by intro W hSw; have hl := hSw.l; rw [HLL.out] at hl; go_simp; with_reducible rfl) hU (fun hU => ?_); (try simp only [Act.put, List.setIfInBounds_toArray, List.set_cons_zero, List.set_cons_succ]))
                (refine AnyS.take (i := 4) rfl (by kernel_rfl) (by kernel_rfl) (by kernel_rfl) (by rfl) (fun _ _ _ h => h) (by rfl) (by intro w; go_simp; with_reducible rfl) hU (fun hU => ?_); (try simp only [Act.put, List.setIfInBounds_toArray, List.set_cons_zero, List.set_cons_succ]); refine AnyS.take (i := 5) rfl (by kernel_rfl) (by kernel_rfl) (by kernel_rfl) (by rfl) (fun _ _ _ h => h) (by rfl) (by intro w; go_simp; with_reducible rfl) hU (fun hU => ?_); (try simp only [Act.put, List.setIfInBounds_toArray, List.set_cons_zero, List.set_cons_succ]))
                refine AnyS.branch (rs := [6]) (by kernel_rfl) (by simp) (AllS.cons rfl (fun K hK => ?_) AllS.nil)
                go_simp
                refine (HWO.out x _ (by omega)).mono ?_
                rintro e w4 ⟨rfl, hb4⟩
                have hB4 := hBW.trans (hb4.mono hBW.size)
                refine hK.out _ _ (.inl (HS.out _ hB4)) (fun hU => ?_)
                clear hK K hBW
                (try simp only [Act.put, List.setIfInBounds_toArray, List.set_cons_zero, List.set_cons_succ])
                refine AnyS.branch (rs := [7]) (by kernel_rfl) (by simp) (AllS.cons rfl (fun K hK => ?_) AllS.nil)
                go_simp
                refine (HACT.out q x _ hqlt).mono ?_
                rintro e w5 ⟨rfl, hb5⟩
                have hB5 := hB4.trans (hb5.mono hB4.size)
                refine hK.out _ _ (.inl (HS.out _ hB5)) (fun hU => ?_)
                clear hK K hB4
                (try simp only [Act.put, List.setIfInBounds_toArray, List.set_cons_zero, List.set_cons_succ])
                have hM5 := hM.call hB5
                have hl : letsP m.l (txt (wimg m n q x)) = true := img_lets hok hwf hqlt n x
                have hts : (txt (wimg m n q x)).size ≤ 28 := by rw [txt_size, wimg_length]; omega
                have HLT : Hid (numL m.l (lts (txt (wimg m n q x))) = imgN m n q x) := by show _ = _; rw [img_lts hok hwf hqlt]; rfl
                have hr := wsec_lt hok hwf hqlt n x
                have hil := HIM.out q x hqlt
                have HTB : Hid (tileB m n q x = (trivB m (wsec m n q x) && imgN m n q x != x)) := rfl
                have HTQ : Hid (tileQ m n x (tileK m n x) (q + 1) = if tileB m n q x then upd1 (upd1 (tileQ m n x (tileK m n x) q) x (imgN m n q x)) (imgN m n q x) x else tileQ m n x (tileK m n x) q) := rfl
                clear hM
                generalize tileQ m n x (tileK m n x) q = M at *
                generalize txt (wimg m n q x) = t1 at *
                generalize wsec m n q x = r at *
                (refine AnyS.take (i := 8) rfl (by kernel_rfl) (by kernel_rfl) (by kernel_rfl) (by rfl) (fun _ _ _ h => h) (by rfl) (by intro w; go_simp; with_reducible rfl) hU (fun hU => ?_); (try simp only [Act.put, List.setIfInBounds_toArray, List.set_cons_zero, List.set_cons_succ]); refine AnyS.take (i := 9) rfl (by kernel_rfl) (by kernel_rfl) (by kernel_rfl) (by rfl) (fun _ _ _ h => h) (by rfl) (by intro w; go_simp; with_reducible rfl) hU (fun hU => ?_); (try simp only [Act.put, List.setIfInBounds_toArray, List.set_cons_zero, List.set_cons_succ]); refine AnyS.take (i := 10) rfl (by kernel_rfl) (by kernel_rfl) (by kernel_rfl) (by rfl) (fun _ _ _ h => h) (by rfl) (by intro w; go_simp; with_reducible rfl) hU (fun hU => ?_); (try simp only [Act.put, List.setIfInBounds_toArray, List.set_cons_zero, List.set_cons_succ]))
                refine AnyS.branch (rs := [11]) (by kernel_rfl) (by simp) (AllS.cons rfl (fun K hK => ?_) AllS.nil)
                go_simp
                refine hK.out _ _ (.inl (HS.out _ hB5)) (fun hU => ?_)
                clear hK K
                (try simp only [Act.put, List.setIfInBounds_toArray, List.set_cons_zero, List.set_cons_succ])
                refine AnyS.branch (rs := [12]) (by kernel_rfl) (by simp) (AllS.cons rfl (fun K hK => ?_) AllS.nil)
                go_simp
                refine hK.out _ _ (.inl (HS.out _ hB5)) (fun hU => ?_)
                clear hK K
                (try simp only [Act.put, List.setIfInBounds_toArray, List.set_cons_zero, List.set_cons_succ])
                refine AnyS.done (by kernel_rfl) ?_ _
                have hcl : w5.cell? ⟨w.heap.size, 0, none⟩ = some (.int .i64 (m.l : Int)) := by rw [← HLL.out]; exact (hM5.mach 1 rfl).l
                have hbt := (hM5.at 0 rfl).cell' (bls_get (trivB m) (q := r) (by omega))
                clear hU hB5 HS
                go_wp2_with fail
                refine (l01NumberOf_any m.l hl3 _ hl hts _).mono ?_
                rintro e w' ⟨rfl, rfl⟩
                rw [HLT.out]
                clear hl hts hcl
                generalize imgN m n q x = y at *
                have j1 : (0 : Int) ≤ (r : Int) := by omega
                have j2 : (r : Int) < 16 := by omega
                have j3 : (0 : Int) ≤ (y : Int) := by omega
                have j4 : (y : Int) < (k : Int) := by omega
                have j5 : (0 : Int) ≤ (x : Int) := by omega
                cases ht : trivB m r
                · rw [ht] at hbt HTB
                  simp only [Bool.false_and] at HTB
                  rw [HTB.out] at HTQ
                  simp only [Bool.false_eq_true, if_false] at HTQ
                  clear ht
                  go_wp2_with fail
                  go_roundw
                  case rel => exact ⟨q + 1, by omega, by go_num, by rw [HTQ.out]; exact hM5⟩
                  case measure => simp [intOf] <;> omega
                · rw [ht] at hbt HTB
                  clear ht
                  by_cases e : y = x
                  · have HT2 : Hid (tileB m n q x = false) := by show _ = _; rw [HTB.out, e]; simp
                    rw [HT2.out] at HTQ
                    simp only [Bool.false_eq_true, if_false] at HTQ
                    have e' : ((y : Int) != (x : Int)) = false := by simp; omega
                    clear e
                    go_wp2_with fail
                    go_roundw
                    case rel => exact ⟨q + 1, by omega, by go_num, by rw [HTQ.out]; exact hM5⟩
                    case measure => simp [intOf] <;> omega
                  · have HT2 : Hid (tileB m n q x = true) := by show _ = _; rw [HTB.out]; simp [e]
                    rw [HT2.out] at HTQ
                    simp only [if_true] at HTQ
                    have e' : ((y : Int) != (x : Int)) = true := by simp; omega
                    have HE := Lib.hid e
                    clear e
                    have HHD : Hid (∀ (W : World) M' a, a < k → Mm w.heap.size w W ((ba, bls (trivB m), 61) :: (w.heap.size, m.cells, 28) :: rowsB g k k M') [(.slice (some ⟨gv, 0, none⟩) k cap, 57, hdl g k k)] → W.cell? ⟨gv, a, none⟩ = some (.slice (some ⟨g a, 0, none⟩) k k)) := fun W M' a ha h => by
                      have ho := h.own _ (List.mem_cons_self ..)
                      simp only [hdl_len] at ho
                      rw [World.ownsRow.cellAt ho a (by omega), hdl_get ha]
                    have HST : Hid (∀ (W : World) M' a b, a < k → b < k → Mm w.heap.size w W ((ba, bls (trivB m), 61) :: (w.heap.size, m.cells, 28) :: rowsB g k k M') [(.slice (some ⟨gv, 0, none⟩) k cap, 57, hdl g k k)] → ((∃ v, W.cell? ⟨g a, b, none⟩ = some (.bool v)) ∧ W.frozen? ⟨g a, b, none⟩ = false ∧ Mm w.heap.size w (W.setCell ⟨g a, b, none⟩ (.bool true)) ((ba, bls (trivB m), 61) :: (w.heap.size, m.cells, 28) :: rowsB g k k (upd1 M' a b)) [(.slice (some ⟨gv, 0, none⟩) k cap, 57, hdl g k k)])) := fun W M' a b ha hb h => by
                      have hr : ((ba, bls (trivB m), 61) :: (w.heap.size, m.cells, 28) :: rowsB g k k M')[a + 2]? = some (g a, bvs k (M' a), 4) := by rw [List.getElem?_cons_succ, List.getElem?_cons_succ]; exact rowsB_get _ ha
                      refine ⟨⟨_, (h.at (a + 2) hr).cell' (bvs_get _ hb)⟩, (h.at (a + 2) hr).free b, ?_⟩
                      have h2 := h.setCell (a + 2) hr b (.bool true)
                      rw [List.set_cons_succ, List.set_cons_succ, rowsB_set g k k M' ha hb] at h2
                      exact h2
                    have d1 := HHD.out _ _ x hxlt hM5
                    have d2 := HHD.out _ _ y hil hM5
                    obtain ⟨⟨v1, d3⟩, d4, d5⟩ := HST.out _ _ x y hxlt hil hM5.drew
                    obtain ⟨⟨v2, d6⟩, d7, d8⟩ := HST.out _ _ y x hil hxlt d5
                    rw [← HTQ.out] at d8
                    have HD8 := Lib.hid d8
                    clear hM5 d5 d8
                    go_wp2_with fail
                    go_still_tail 9, (by kernel_rfl)
                    change wpList _ _ _ _ _ w5.drew
                    clear d1 d2 hbt
                    generalize w5.drew = wd at *
                    go_wp2_with fail
                    go_roundw
                    case rel => exact ⟨q + 1, by omega, by go_num, HD8.out⟩
                    case measure => simp [intOf] <;> omega
              · have hq' : q = m.s := by omega
                subst hq'
                go_wp2_with fail
                go_roundw
                case rel => exact ⟨x + 1, by omega, by go_num, hM⟩
                case measure => simp [intOf] <;> omega
          · have hx' : x = k := by omega
            subst hx'
            have HHD : ∀ a, a < x → wr.cell? ⟨gv, a, none⟩ = some (.slice (some ⟨g a, 0, none⟩) x x) := fun a ha => by
              have ho := hM.own _ (List.mem_cons_self ..)
              simp only [hdl_len] at ho
              rw [World.ownsRow.cellAt ho a (by omega), hdl_get ha]
            have HBM : Hid (BoolM wr (.slice (some ⟨gv, 0, none⟩) x cap) x (tileK m n x)) := ⟨gv, cap, rfl, fun k hk => ⟨g k, x, HHD k hk, fun l hl => (hM.at (k + 2) (by rw [List.getElem?_cons_succ, List.getElem?_cons_succ]; exact rowsB_get _ hk)).cell' (bvs_get _ hl)⟩⟩
            have hend := hM.below
            clear hM HHD
            go_wp2_with fail
            go_ret
            exact ⟨_, rfl, hend, by rw [← HP.out]; exact HBM.out⟩
end Go.Proofs.Ythgkkaifdlkciaa
