/- TileEdges of both sides. -/
import Derived.Test.YtmacnofkpdikiaaV5
namespace Go.Proofs.Ytmacnofkpdikiaa
open Go.RowKit
set_option linter.unusedVariables false
set_option linter.unusedSimpArgs false

/-- it returns a slice of slices of its own and a code -/
def RetII (rows : List (List Int)) (c : Int) (w : World) (e : Ending) (w' : World) : Prop := ∃ v, e = .returned (.tuple #[v, .int .i64 c]) ∧ Below w.heap.size w w' ∧ OwnII w' w.heap.size v rows
section
variable {B : Nat} {w0 w : World} {v : Value} {rv : List Value} {rows : List (List Int)}
theorem rowG_snoc (r : Value) (xs : List Int) (hl : rv.length = rows.length) : rowG (rv ++ [r]) (rows ++ [xs]) = rowG rv rows ++ [(r, 2, i64s xs)] := by
  simp only [rowG]
  rw [List.zipWith_append hl]
  rfl
/-- a new row of its own -/
theorem Mm.rowNew (h : Mm B w0 w [] ((v, 39, rv) :: rowG rv rows)) (xs : List Int) (hx : xs.length ≤ 1000000) (cs : Array Value) (hcs : cs.toList = i64s xs) :
    Mm B w0 (w.alloc (.cells cs 2)) [] ((.slice (some ⟨w.heap.size, 0, none⟩) xs.length xs.length, 2, i64s xs) :: (v, 39, rv) :: rowG rv rows) := by
  have h1 := h.alloc cs 2
  rw [hcs] at h1
  have h2 := h1.addOwn (b := w.heap.size) (cs := i64s xs) (T := 2) (by simp) xs.length (by simp [i64s]) (by omega)
  simpa using h2
/-- .. that has been appended -/
theorem Mm.rowPut {v' r : Value} {xs : List Int} (h : Mm B w0 w [] ((r, 2, i64s xs) :: (v', 39, rv ++ [r]) :: rowG rv rows)) (hl : rv.length = rows.length) : Mm B w0 w [] ((v', 39, rv ++ [r]) :: rowG (rv ++ [r]) (rows ++ [xs])) := by
  rw [rowG_snoc r xs hl]
  exact h.permG ((List.Perm.swap _ _ _).trans (List.Perm.cons _ (List.perm_append_singleton _ _).symm))
theorem OwnII.of (h : Mm B w0 w [] ((v, 39, rv) :: rowG rv rows)) (hl : rv.length = rows.length) : OwnII w B v rows := ⟨rv, hl, h.since⟩
end

/-! edges -/
def eR (M : Nat → Nat → Bool) (k l : Nat) : List (List Int) := ((List.range l).filter fun j => M k j && decide (k < j)).map fun j : Nat => [(k : Int), (j : Int)]
theorem eR_succ (M : Nat → Nat → Bool) (k l : Nat) : eR M k (l + 1) = eR M k l ++ if (M k l && decide (k < l)) = true then [[(k : Int), (l : Int)]] else [] := by
  simp only [eR, List.range_succ, List.filter_append, List.map_append, List.filter_cons, List.filter_nil]
  split <;> rfl
theorem eR_low (M : Nat → Nat → Bool) (k : Nat) : ∀ l, l ≤ k + 1 → eR M k l = []
  | 0, _ => rfl
  | l + 1, h => by rw [eR_succ, eR_low M k l (by omega), if_neg (by simp; omega)]; rfl
theorem eR_len (M : Nat → Nat → Bool) (k l : Nat) : (eR M k l).length ≤ l := by
  simp only [eR, List.length_map]
  exact Nat.le_trans (List.length_filter_le _ _) (by simp)
def eA (M : Nat → Nat → Bool) (P : Nat) : Nat → List (List Int)
  | 0 => []
  | k + 1 => eA M P k ++ eR M k P
theorem eA_len (M : Nat → Nat → Bool) (P : Nat) : ∀ k, (eA M P k).length ≤ k * P
  | 0 => by simp [eA]
  | k + 1 => by
    have := eA_len M P k
    have := eR_len M k P
    simp only [eA, List.length_append]
    rw [Nat.add_mul]; omega
theorem eA_two (M : Nat → Nat → Bool) (P : Nat) : ∀ k, ∀ r ∈ eA M P k, r.length = 2
  | 0, r, h => by simp [eA] at h
  | k + 1, r, h => by
    simp only [eA, List.mem_append] at h
    rcases h with h | h
    · exact eA_two M P k r h
    · simp only [eR, List.mem_map] at h
      obtain ⟨j, _, rfl⟩ := h
      rfl
def teL (m : Mch) (n : Int) : List (List Int) := if levC m n = 0 then eA (tileK m n.toNat (m.l ^ n.toNat)) (m.l ^ n.toNat) (m.l ^ n.toNat) else []
theorem sumLen_two {rows : List (List Int)} (h : ∀ r ∈ rows, r.length = 2) : sumLen rows rows.length = 2 * rows.length := by
  simp only [sumLen, List.take_length]
  induction rows with
  | nil => rfl
  | cons r t ih =>
    rw [List.map_cons, List.sum_cons, ih (fun x hx => h x (List.mem_cons_of_mem _ hx)), h r (List.mem_cons_self ..), List.length_cons]; omega
theorem teL_len (m : Mch) (n : Int) : (teL m n).length ≤ 100000 ∧ sumLen (teL m n) (teL m n).length ≤ 200000 ∧ ∀ r ∈ teL m n, r.length = 2 := by
  unfold teL
  split
  · rename_i h
    obtain ⟨hok, j, rfl, hj, _⟩ := levC_zero h
    have h1 := pow_level hok.l_ge hok.l_le hj
    simp only [Int.toNat_natCast]
    generalize m.l ^ j = P at *
    have h2 := eA_len (tileK m j P) P P
    have h3 : P * P ≤ 81 * 81 := Nat.mul_le_mul h1 h1
    have h4 := eA_two (tileK m j P) P P
    refine ⟨by omega, ?_, h4⟩
    rw [sumLen_two h4]; omega
  · refine ⟨by simp, by simp [sumLen], fun r h => by simp at h⟩
theorem teL_fit (m : Mch) (n : Int) : (teL m n).length ≤ 100000 ∧ sumLen (teL m n) (teL m n).length ≤ 200000 ∧ ∀ i : Nat, ((teL m n)[i]?.getD []).length ≤ 2000000 := by
  obtain ⟨h1, h2, h3⟩ := teL_len m n
  refine ⟨h1, h2, fun i => ?_⟩
  by_cases hi : i < (teL m n).length
  · rw [List.getElem?_eq_getElem hi, Option.getD_some, h3 _ (List.getElem_mem hi)]; omega
  · rw [List.getElem?_eq_none (by omega)]; simp

set_option maxRecDepth 100000 in
set_option maxHeartbeats 4000000 in
theorem implTileEdges_any (m : Mch) (hwf : m.Wf) (n : Int) (w : World) :
    Calls Try.prog 44 #[.agg m.cells.toArray, .int .i64 n] w (RetII (teL m n) (levC m n) w) := by
  obtain ⟨i0, hi, hz0, hz1, hz2⟩ := info_parts Try.info39
  have hm := MAt.boxed w m 44
  have hb0 := boxedBelow w m.cells.toArray 44
  go_enter Try.func44, Try.ntmps44
  go_wp2_with ((with_reducible refine ld_mach ?_ (.tmp 2) ?_ (w.heap.size) (0) ?_ m hm hwf ?_); exact rfl; exact rfl; exact rfl)
  refine (levelCode_any m hwf n _).mono ?_
  rintro e w1 ⟨rfl, hb1⟩
  have hm1 := hm.keep hb1 hwf
  have hbb1 := hb0.trans (hb1.mono hb0.size)
  by_cases c0 : levC m n = 0
  · obtain ⟨hok, j, rfl, hj, hj5⟩ := levC_zero c0
    have HL : Hid (teL m j = eA (tileK m j (m.l ^ j)) (m.l ^ j) (m.l ^ j)) := by show _ = _; rw [teL, if_pos c0]; simp
    have HC := Lib.hid c0
    have hp := pow_level hok.l_ge hok.l_le hj
    rw [c0]
    clear c0
    go_wp2_with fail
    refine (tiles_any w.heap.size m hwf hok j hj _ hm1).mono ?_
    rintro e w2 ⟨v2, rfl, hb2, hBM⟩
    have hbb2 := hbb1.trans (hb2.mono hbb1.size)
    obtain ⟨P, hP⟩ : ∃ P, P = m.l ^ j := ⟨_, rfl⟩
    rw [← hP] at hp hBM HL
    clear hP
    generalize tileK m j P = M at *
    have hpp : P * P ≤ 81 * 81 := Nat.mul_le_mul hp hp
    have HLEN : Hid (∀ k l, k < P → l ≤ P → (eA M P k ++ eR M k l).length ≤ 7000) := fun k l hk hl => by
      have h1 := eA_len M P k
      have h2 := eR_len M k l
      have h3 : k * P ≤ P * P := Nat.mul_le_mul_right P (by omega)
      rw [List.length_append]; omega
    obtain ⟨bo, c, rfl, hcell⟩ := hBM
    have HCELL := Lib.hid hcell
    have hM0 := (Mm.start w2).addNil 39
    clear hcell hm hm1 hpp
    go_wp2_with fail
    go_loopw [7, 21] (fun v i wr => ∃ (k : Nat) (rv : List Value), k ≤ P ∧ i = .int .i64 k ∧ Mm w2.heap.size w2 wr [] ((v, 39, rv) :: rowG rv (eA M P k)) ∧ Hid (rv.length = (eA M P k).length)) (fun _ i _ => P - (intOf i).toNat)
    case atStart => exact ⟨0, [], Nat.zero_le _, rfl, hM0, rfl⟩
    case round =>
      clear hM0
      obtain ⟨k, rv, hk, rfl, hM, HLR⟩ := hrel
      by_cases hlt : k < P
      · obtain ⟨g, cg, e1, e2⟩ := HCELL.out k hlt
        have HE2 := Lib.hid e2
        have c1 := (hM.below.cell (p := ⟨bo, k, none⟩) (World.block_lt_of_cell? w2 _ e1)).trans e1
        have i1 : (0 : Int) ≤ (k : Int) := by omega
        have i2 : (k : Int) < (P : Int) := by omega
        clear e2
        go_wp2_with fail
        clear c1
        go_loopw [7, 28] (fun v i wi => ∃ (l : Nat) (rv : List Value), l ≤ P ∧ i = .int .i64 l ∧ Mm w2.heap.size w2 wi [] ((v, 39, rv) :: rowG rv (eA M P k ++ eR M k l)) ∧ Hid (rv.length = (eA M P k ++ eR M k l).length)) (fun _ i _ => P - (intOf i).toNat)
        case atStart => exact ⟨0, rv, Nat.zero_le _, rfl, by simpa [eR] using hM, by show _ = _; simpa [eR] using HLR.out⟩
        case round =>
          clear hM HLR
          obtain ⟨l, rv, hl, rfl, hM, HLR⟩ := hrel
          by_cases hllt : l < P
          · have f0 := HE2.out l hllt
            have c2 := (hM.below.cell (p := ⟨g, l, none⟩) (World.block_lt_of_cell? w2 _ f0)).trans f0
            have j1 : (0 : Int) ≤ (l : Int) := by omega
            have j2 : (l : Int) < (P : Int) := by omega
            have HS := Lib.hid (eR_succ M k l)
            clear f0
            by_cases hc : (M k l && decide (k < l)) = true
            · rw [if_pos hc] at HS
              have hkl : k < l := by simp at hc; exact hc.2
              have hMk : M k l = true := by simp at hc; exact hc.1
              rw [hMk] at c2
              have j3 : (k : Int) < (l : Int) := by omega
              have hM1 := hM.rowNew [(k : Int), (l : Int)] (by simp) #[.int .i64 (k : Int), .int .i64 (l : Int)] rfl
              have hrl : rv.length ≤ 1000000 := by rw [HLR.out]; have := HLEN.out k l hlt (by omega); omega
              clear hc hMk hM
              go_wp2_with (at_builtin; refine Mm.appendAt rfl (.tmp 39) (.tmp 43) 61 rfl hM1 1 rfl Try.underlying61 hi hz0 hz1 hz2 rfl rfl (wr.heap.size + 1) (World.size_alloc ..) rfl rfl hrl (by omega) ?_)
              intro g' cap' w3 hM3
              have HM3 : Hid (Mm w2.heap.size w2 w3 [] ((.slice (some ⟨g', 0, none⟩) (rv.length + 1) cap', 39, rv ++ [.slice (some ⟨wr.heap.size, 0, none⟩) 2 2]) :: rowG (rv ++ [.slice (some ⟨wr.heap.size, 0, none⟩) 2 2]) (eA M P k ++ eR M k (l + 1)))) := by
                rw [HS.out, ← List.append_assoc]; exact Mm.rowPut hM3 HLR.out
              have HLR2 : Hid ((rv ++ [Value.slice (some ⟨wr.heap.size, 0, none⟩) 2 2]).length = (eA M P k ++ eR M k (l + 1)).length) := by
                show _ = _; have h := HLR.out; rw [HS.out, ← List.append_assoc]; simp only [List.length_append, List.length_cons, List.length_nil] at h ⊢; omega
              clear hM1 hM3
              go_wp2_with fail
              go_roundw
              case rel => exact ⟨l + 1, _, by omega, by go_num, HM3.out, HLR2⟩
              case measure => simp [intOf] <;> omega
            · rw [if_neg hc, List.append_nil] at HS
              rw [← HS.out] at hM HLR
              cases hMk : M k l
              · rw [hMk] at c2
                clear hc hMk
                go_wp2_with fail
                go_roundw
                case rel => exact ⟨l + 1, rv, by omega, by go_num, hM, HLR⟩
                case measure => simp [intOf] <;> omega
              · rw [hMk] at c2 hc
                have j3 : ¬ (k : Int) < (l : Int) := by simp at hc; omega
                clear hc hMk
                go_wp2_with fail
                go_roundw
                case rel => exact ⟨l + 1, rv, by omega, by go_num, hM, HLR⟩
                case measure => simp [intOf] <;> omega
          · have hl' : l = P := by omega
            subst hl'
            go_wp2_with fail
            go_roundw
            case rel => exact ⟨k + 1, rv, by omega, by go_num, hM, HLR⟩
            case measure => simp [intOf] <;> omega
      · have hk' : k = P := by omega
        subst hk'
        have hO := Lib.hid (OwnII.of hM HLR.out)
        have hend := hbb2.trans (hM.below.mono hbb2.size)
        clear hM
        go_wp2_with fail
        go_ret2
        rw [HL.out, HC.out]
        exact ⟨_, rfl, hend, hO.out.less hbb2.size⟩
  · have HL : Hid (teL m n = []) := by show _ = _; rw [teL, if_neg c0]
    have c1 : (levC m n != 0) = true := by simpa using c0
    clear c0
    generalize hc : levC m n = c at *
    clear hc
    go_wp2_with fail
    go_ret2
    rw [HL.out]
    exact ⟨_, rfl, hbb1, OwnII.nil _ _ hbb1.size⟩

set_option maxRecDepth 100000 in
set_option maxHeartbeats 4000000 in
theorem specTileEdges_any (m : Mch) (hwf : m.Wf) (n : Int) (w : World) :
    Calls Try.prog 43 #[.agg m.cells.toArray, .int .i64 n] w (RetII (teL m n) (levC m n) w) := by
  obtain ⟨i0, hi, hz0, hz1, hz2⟩ := info_parts Try.info39
  have hm := MAt.boxed w m 44
  have hb0 := boxedBelow w m.cells.toArray 44
  go_enter Try.func43, Try.ntmps43
  go_wp2_with ((with_reducible refine ld_mach ?_ (.tmp 2) ?_ (w.heap.size) (0) ?_ m hm hwf ?_); exact rfl; exact rfl; exact rfl)
  refine (l05Code_any m hwf n _).mono ?_
  rintro e w1 ⟨rfl, hb1⟩
  have hm1 := hm.keep hb1 hwf
  have hbb1 := hb0.trans (hb1.mono hb0.size)
  by_cases c0 : levC m n = 0
  · obtain ⟨hok, j, rfl, hj, hj5⟩ := levC_zero c0
    have HL : Hid (teL m j = eA (tileK m j (m.l ^ j)) (m.l ^ j) (m.l ^ j)) := by show _ = _; rw [teL, if_pos c0]; simp
    have HC := Lib.hid c0
    have hp := pow_level hok.l_ge hok.l_le hj
    rw [c0]
    clear c0
    go_wp2_with ((with_reducible refine ld_mach ?_ (.tmp 2) ?_ (w.heap.size) (0) ?_ m hm1 hwf ?_); exact rfl; exact rfl; exact rfl)
    refine (l09Joined_any m hwf hok j hj _).mono ?_
    rintro e w2 ⟨v2, rfl, hb2, hBM⟩
    have hbb2 := hbb1.trans (hb2.mono hbb1.size)
    obtain ⟨P, hP⟩ : ∃ P, P = m.l ^ j := ⟨_, rfl⟩
    rw [← hP] at hp hBM HL
    clear hP
    generalize tileK m j P = M at *
    have hpp : P * P ≤ 81 * 81 := Nat.mul_le_mul hp hp
    have HLEN : Hid (∀ k l, k < P → l ≤ P → (eA M P k ++ eR M k l).length ≤ 7000) := fun k l hk hl => by
      have h1 := eA_len M P k
      have h2 := eR_len M k l
      have h3 : k * P ≤ P * P := Nat.mul_le_mul_right P (by omega)
      rw [List.length_append]; omega
    obtain ⟨bo, c, rfl, hcell⟩ := hBM
    have HCELL := Lib.hid hcell
    have hM0 : Mm w2.heap.size w2 (w2.alloc (.cells #[] 39)) [] [(.slice (some ⟨w2.heap.size, 0, none⟩) 0 0, 39, [])] := by
      have := ((Mm.start w2).alloc #[] 39).addOwn (b := w2.heap.size) (cs := []) (T := 39) (by simp) 0 rfl (by omega)
      simpa using this
    clear hcell hm hm1 hpp
    go_wp2_with fail
    go_loopw [8, 9] (fun v i wr => ∃ (k : Nat) (rv : List Value), k ≤ P ∧ i = .int .i64 k ∧ Mm w2.heap.size w2 wr [] ((v, 39, rv) :: rowG rv (eA M P k)) ∧ Hid (rv.length = (eA M P k).length)) (fun _ i _ => P - (intOf i).toNat)
    case atStart => exact ⟨0, [], Nat.zero_le _, rfl, hM0, rfl⟩
    case round =>
      clear hM0
      obtain ⟨k, rv, hk, rfl, hM, HLR⟩ := hrel
      by_cases hlt : k < P
      · obtain ⟨g, cg, e1, e2⟩ := HCELL.out k hlt
        have HE1 := Lib.hid e1
        have HE2 := Lib.hid e2
        have i1 : (0 : Int) ≤ (k : Int) := by omega
        have i2 : (k : Int) < (P : Int) := by omega
        clear e1 e2
        go_wp2_with fail
        go_loopw [8, 10] (fun v i wi => ∃ (l : Nat) (rv : List Value), k + 1 ≤ l ∧ l ≤ P ∧ i = .int .i64 l ∧ Mm w2.heap.size w2 wi [] ((v, 39, rv) :: rowG rv (eA M P k ++ eR M k l)) ∧ Hid (rv.length = (eA M P k ++ eR M k l).length)) (fun _ i _ => P - (intOf i).toNat)
        case atStart => exact ⟨k + 1, rv, Nat.le_refl _, by omega, by go_num, by rw [eR_low M k (k + 1) (Nat.le_refl _), List.append_nil]; exact hM, by show _ = _; rw [eR_low M k (k + 1) (Nat.le_refl _), List.append_nil]; exact HLR.out⟩
        case round =>
          clear hM HLR
          obtain ⟨l, rv, hkl, hl, rfl, hM, HLR⟩ := hrel
          by_cases hllt : l < P
          · have f0 := HE2.out l hllt
            have c1 := (hM.below.cell (p := ⟨bo, k, none⟩) (World.block_lt_of_cell? w2 _ HE1.out)).trans HE1.out
            have c2 := (hM.below.cell (p := ⟨g, l, none⟩) (World.block_lt_of_cell? w2 _ f0)).trans f0
            have j1 : (0 : Int) ≤ (l : Int) := by omega
            have j2 : (l : Int) < (P : Int) := by omega
            have HS := Lib.hid (eR_succ M k l)
            rw [show decide (k < l) = true from by simp; omega, Bool.and_true] at HS
            clear f0
            cases hMk : M k l
            · rw [hMk] at c2 HS
              simp only [Bool.false_eq_true, if_false, List.append_nil] at HS
              rw [← HS.out] at hM HLR
              clear hMk
              go_wp2_with fail
              go_roundw
              case rel => exact ⟨l + 1, rv, by omega, by omega, by go_num, hM, HLR⟩
              case measure => simp [intOf] <;> omega
            · rw [hMk] at c2 HS
              simp only [if_true] at HS
              have hM1 := hM.rowNew [(k : Int), (l : Int)] (by simp) #[.int .i64 (k : Int), .int .i64 (l : Int)] rfl
              have hrl : rv.length ≤ 1000000 := by rw [HLR.out]; have := HLEN.out k l hlt (by omega); omega
              clear hMk hM
              go_wp2_with (at_builtin; refine Mm.appendAt rfl (.tmp 42) (.tmp 46) 61 rfl hM1 1 rfl Try.underlying61 hi hz0 hz1 hz2 rfl rfl (wr.heap.size + 1) (World.size_alloc ..) rfl rfl hrl (by omega) ?_)
              intro g' cap' w3 hM3
              have HM3 : Hid (Mm w2.heap.size w2 w3 [] ((.slice (some ⟨g', 0, none⟩) (rv.length + 1) cap', 39, rv ++ [.slice (some ⟨wr.heap.size, 0, none⟩) 2 2]) :: rowG (rv ++ [.slice (some ⟨wr.heap.size, 0, none⟩) 2 2]) (eA M P k ++ eR M k (l + 1)))) := by
                rw [HS.out, ← List.append_assoc]; exact Mm.rowPut hM3 HLR.out
              have HLR2 : Hid ((rv ++ [Value.slice (some ⟨wr.heap.size, 0, none⟩) 2 2]).length = (eA M P k ++ eR M k (l + 1)).length) := by
                show _ = _; have h := HLR.out; rw [HS.out, ← List.append_assoc]; simp only [List.length_append, List.length_cons, List.length_nil] at h ⊢; omega
              clear hM1 hM3
              go_wp2_with fail
              go_roundw
              case rel => exact ⟨l + 1, _, by omega, by omega, by go_num, HM3.out, HLR2⟩
              case measure => simp [intOf] <;> omega
          · have hl' : l = P := by omega
            subst hl'
            go_wp2_with fail
            go_roundw
            case rel => exact ⟨k + 1, rv, by omega, by go_num, hM, HLR⟩
            case measure => simp [intOf] <;> omega
      · have hk' : k = P := by omega
        subst hk'
        have hO := Lib.hid (OwnII.of hM HLR.out)
        have hend := hbb2.trans (hM.below.mono hbb2.size)
        clear hM
        go_wp2_with fail
        go_ret2
        rw [HL.out, HC.out]
        exact ⟨_, rfl, hend, hO.out.less hbb2.size⟩
  · have HL : Hid (teL m n = []) := by show _ = _; rw [teL, if_neg c0]
    have c1 : (levC m n != 0) = true := by simpa using c0
    clear c0
    generalize hc : levC m n = c at *
    clear hc
    go_wp2_with fail
    go_ret2
    rw [HL.out]
    exact ⟨_, rfl, hbb1, OwnII.nil _ _ hbb1.size⟩
end Go.Proofs.Ytmacnofkpdikiaa
