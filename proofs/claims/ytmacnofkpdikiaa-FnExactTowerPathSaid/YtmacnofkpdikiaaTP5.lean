/- TowerDistance of the reference. -/
import Derived.Test.YtmacnofkpdikiaaTP4
import Derived.Test.YtmacnofkpdikiaaI
namespace Go.Proofs.Ytmacnofkpdikiaa
open Go.RowKit
set_option linter.unusedVariables false
set_option linter.unusedSimpArgs false
set_option linter.unusedSectionVars false

/-- the least path's number -/
noncomputable def fstE (s v : ByteArray) : Nat := open Classical in if h : ∃ E, Fst nbS s v E then Classical.choose h else 0
theorem fstE_fst {n : Nat} {s v : ByteArray} (hs : okW n s) (hv : okW n v) : Fst nbS s v (fstE s v) := by
  obtain ⟨e, he⟩ := connS hs hv
  have h : ∃ E, Fst nbS s v E := Fst.of he
  unfold fstE
  rw [dif_pos h]
  exact Classical.choose_spec h
def two (s v : ByteArray) (i : Nat) : ByteArray := if i = 0 then s else v
theorem two_short {s v : ByteArray} (hs : Short s) (hv : Short v) (i : Nat) : Short (two s v i) := by unfold two; split <;> assumption
theorem two_ok {s v : ByteArray} (h : towC (two s v) 2 = 0) : s.size ≤ 5 ∧ okW s.size s ∧ okW s.size v := by
  have h1 : tc1 (two s v) 2 = true := by
    unfold towC at h
    split at h
    · assumption
    · omega
  have h2 : tc2 (two s v) 2 = true := by
    unfold towC at h
    rw [if_pos h1] at h
    split at h
    · assumption
    · omega
  simp only [tc1, List.all_eq_true, List.mem_range] at h1
  simp only [tc2, List.all_eq_true, List.mem_range] at h2
  have a0 := h1 0 (by omega)
  have a1 := h1 1 (by omega)
  have b0 := h2 0 (by omega)
  have b1 := h2 1 (by omega)
  simp only [two, if_pos, show ¬ (1 = 0) by omega, if_false, wordP, tow, Bool.and_eq_true, decide_eq_true_eq] at a0 a1 b0 b1
  refine ⟨b0.1.2, okW_of a0.1, ?_⟩
  have := okW_of a1.1
  rwa [b1.2] at this
noncomputable def tdD (s v : ByteArray) : Int := if towC (two s v) 2 = 0 then (gLen (fstE s v) : Int) else 0
theorem two_cell (w : World) (s v : ByteArray) (T i : Nat) (h : i < 2) : (w.alloc (.cells #[.string s, .string v] T)).cell? ⟨w.heap.size, i, none⟩ = some (.string (two s v i)) := by
  have hB := Blk.new w #[.string s, .string v] T
  rcases (by omega : i = 0 ∨ i = 1) with rfl | rfl
  · exact hB.cell' rfl
  · exact hB.cell' rfl

/-- what the full table says -/
theorem dist_cell {n : Nat} {s v : ByteArray} (hs : okW n s) (hv : okW n v) {c : Nat} (hc : ∀ x, isF nbS v x = true → x < c) : (gTab nbS numW (3 ^ n) v c)[numW s]?.getD 0 = (gLen (fstE s v) : Int) := by
  have h1 := fstE_fst hv hs
  have h2 := fstE_fst hs hv
  have h3 := gTab_hit (nb := nbS) (ok := okW n) nbS_ok numW_inj (N := 3 ^ n) hv (gF_mem.2 ⟨hc _ h1.2, h1.2⟩) (numW_lt _ (gAt_ok (nb := nbS) (ok := okW n) nbS_ok hv _))
  rw [h1.1] at h3
  rw [h3, Fst.sym (nb := nbS) (ok := okW n) nbS_ok nbS_inv hv hs h1 h2]

set_option maxRecDepth 100000 in
set_option maxHeartbeats 2000000 in
theorem specTowerDistance_any (s v : ByteArray) (hs : Short s) (hv : Short v) (w : World) :
    Calls Try.prog 22 #[.string s, .string v] w (Ret2 (.int .i64 (tdD s v)) (.int .i64 (towC (two s v) 2)) w) := by
  have hcell := two_cell w s v 9
  have HT := Lib.hid (l08Tower_any w.heap.size 2 (two s v) (w.alloc (.cells #[.string s, .string v] 9)) (by omega) (by omega) (two_short hs hv) hcell)
  have hb0 : Below w.heap.size w (w.alloc (.cells #[.string s, .string v] 9)) := (Below.refl _ _).alloc (Nat.le_refl _) _
  clear hcell hs hv
  go_enter Try.func22, Try.ntmps22
  go_wp2_with fail
  refine HT.out.mono ?_
  rintro e w1 ⟨rfl, m, e1⟩
  have hb1 : Below w.heap.size w w1 := by rw [e1]; exact below_dN hb0 m
  clear e1 hb0 HT
  by_cases c0 : towC (two s v) 2 = 0
  · obtain ⟨h5, hos, hov⟩ := two_ok c0
    obtain ⟨n, hn⟩ : ∃ n, n = s.size := ⟨_, rfl⟩
    rw [← hn] at h5 hos hov
    have HD : Hid (tdD s v = (gLen (fstE s v) : Int)) := by show _ = _; rw [tdD, if_pos c0]
    have HC := Lib.hid c0
    have HNUM := Lib.hid (numW_any n h5 s hos)
    have HDC := Lib.hid (fun (c : Nat) (hc : ∀ x, isF nbS v x = true → x < c) => dist_cell hos hov hc)
    have hlt := numW_lt s hos
    have HDI := Lib.hid (l08Distances_any n h5 v hov)
    have hN : 3 ^ n ≤ 243 := Nat.pow_le_pow_right (by omega) h5
    rw [c0]
    clear c0 hn hos hov
    go_wp2_with fail
    refine (HDI.out _).mono ?_
    rintro e w2 ⟨g, c, rfl, hb2, hcl, hB⟩
    have f0 := hB.cell' (i64s_get (xs := gTab nbS numW (3 ^ n) v c) (i := numW s) (by rw [gTab_len]; exact hlt))
    rw [HDC.out c hcl] at f0
    have hbb := hb1.trans (hb2.mono hb1.size)
    obtain ⟨P, hP⟩ : ∃ P, P = 3 ^ n := ⟨_, rfl⟩
    rw [← hP] at hlt hN ⊢
    have j0 : (0 : Int) ≤ (numW s : Int) := by omega
    have j1 : (numW s : Int) < (P : Int) := by omega
    clear hB hcl hP
    generalize gLen (fstE s v) = D at *
    go_wp2_with fail
    refine (HNUM.out _).mono ?_
    rintro e w' ⟨rfl, rfl⟩
    go_wp2_with fail
    go_ret2
    rw [HC.out, HD.out]
    exact ⟨rfl, hbb⟩
  · have HD : Hid (tdD s v = 0) := by show _ = _; rw [tdD, if_neg c0]
    have hr := towC_range (two s v) 2
    have c1 : (towC (two s v) 2 != 0) = true := by simpa using c0
    generalize towC (two s v) 2 = T at *
    clear c0
    go_wp2_with fail
    go_ret2
    rw [HD.out]
    exact ⟨rfl, hb1⟩
end Go.Proofs.Ytmacnofkpdikiaa
