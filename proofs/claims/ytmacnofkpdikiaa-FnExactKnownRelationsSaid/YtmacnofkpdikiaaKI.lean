/- KnownRelations of the program. -/
import Derived.Test.YtmacnofkpdikiaaKR
import Derived.Test.YtmacnofkpdikiaaC2
namespace Go.Proofs.Ytmacnofkpdikiaa
open Go.RowKit
set_option linter.unusedVariables false
set_option linter.unusedSimpArgs false
/-- their texts -/
def kt : Nat → ByteArray
  | 0 => ByteArray.mk #[50, 58, 48, 97, 49, 97, 44, 49, 97, 48, 98]
  | 1 => ByteArray.mk #[51, 58, 48, 97, 49, 97, 50, 97, 44, 49, 97, 50, 97, 48, 98]
  | 2 => ByteArray.mk #[50, 58, 49, 99, 48, 98, 44, 49, 98, 48, 99, 44, 48, 97, 49, 97]
  | 3 => ByteArray.mk #[50, 58, 48, 97, 49, 97, 44, 48, 97, 49, 99, 44, 49, 97, 48, 98]
  | 4 => ByteArray.mk #[50, 58, 48, 97, 49, 97, 44, 49, 97, 48, 97, 44, 48, 98, 49, 100, 44, 48, 98, 49, 101, 44, 48, 97, 49, 99]
  | 5 => ByteArray.mk #[51, 58, 48, 97, 49, 97, 50, 97, 44, 49, 97, 50, 97, 48, 97, 44, 48, 98, 49, 99, 50, 100, 44, 50, 97, 48, 97, 49, 97]
  | 6 => ByteArray.mk #[51, 58, 48, 97, 49, 97, 50, 97, 44, 49, 97, 48, 97, 50, 98, 44, 50, 97, 49, 99, 48, 97, 44, 48, 100, 50, 97, 49, 97]
  | _ => ByteArray.mk #[50, 58, 48, 97, 49, 98, 44, 49, 97, 48, 98]
/-- the slice of its relations, made from block n on -/
def ks (n : Nat) : Nat → Value
  | 4 => .slice (some ⟨n, 0, none⟩) 6 6
  | 5 => .slice (some ⟨n + 1, 0, none⟩) 3 3
  | 6 => .slice (some ⟨n + 1 + 1, 0, none⟩) 3 3
  | 7 => .slice (some ⟨n + 1 + 1 + 1, 0, none⟩) 2 2
  | _ => .slice none 0 0
def kRow (n i : Nat) : List Value := [.string ⟨(kn i).toArray⟩, .string (kt i), ks n i]

def kCells (n : Nat) : List Value := kRow n 0 ++ (kRow n 1 ++ (kRow n 2 ++ (kRow n 3 ++ (kRow n 4 ++ (kRow n 5 ++ (kRow n 6 ++ kRow n 7))))))
def kW4 (w : World) : World := (((w.alloc (.cells (stv (kr 4)).toArray 9)).alloc (.cells (stv (kr 5)).toArray 9)).alloc (.cells (stv (kr 6)).toArray 9)).alloc (.cells (stv (kr 7)).toArray 9)
def kW (w : World) : World := (kW4 w).alloc (.cells (kCells w.heap.size).toArray 74)
theorem below1 (w : World) (o : Obj) : Below w.heap.size w (w.alloc o) := (Below.refl _ _).alloc (Nat.le_refl _) o
theorem OwnS.at {w : World} {n B : Nat} (hn : w.heap.size = n) (hB : B ≤ n) (xs : List ByteArray) (hx : xs.length ≤ 100) : OwnS (w.alloc (.cells (stv xs).toArray 9)) B (.slice (some ⟨n, 0, none⟩) xs.length xs.length) xs := by
  subst hn; exact (OwnS.made w xs hx).less hB
theorem kW4_size (w : World) : (kW4 w).heap.size = w.heap.size + 1 + 1 + 1 + 1 := by simp [kW4]
theorem kW4_below (w : World) : Below w.heap.size w (kW4 w) := by
  refine ((((Below.refl _ _).alloc (Nat.le_refl _) _).alloc ?_ _).alloc ?_ _).alloc ?_ _ <;> simp <;> omega
theorem known_post (w : World) : ∃ g, Ending.returned (.slice (some ⟨w.heap.size + 1 + 1 + 1 + 1, 0, none⟩) 8 8) = .returned (.slice (some ⟨g, 0, none⟩) 8 8) ∧ Below w.heap.size w (kW w) ∧ w.heap.size ≤ g ∧ g < (kW w).heap.size ∧ (∀ i, i < 8 → (kW w).rangeAt g (i * 3) (kRow w.heap.size i)) ∧ ∀ i, i < 8 → OwnS (kW w) w.heap.size (ks w.heap.size i) (kr i) := by
  have hsz := kW4_size w
  refine ⟨w.heap.size + 1 + 1 + 1 + 1, rfl, (kW4_below w).alloc (kW4_below w).size _, by omega, by rw [kW, World.size_alloc, hsz]; omega, fun i hi => ?_, fun i hi => ?_⟩
  · have hB := Blk.new (kW4 w) (kCells w.heap.size).toArray 74
    rw [hsz] at hB
    refine hB.range (i * 3) _ (fun j v hj => ?_)
    have hj3 : j < 3 := (List.getElem?_eq_some_iff.1 hj).1
    rcases (by omega : i = 0 ∨ i = 1 ∨ i = 2 ∨ i = 3 ∨ i = 4 ∨ i = 5 ∨ i = 6 ∨ i = 7) with rfl | rfl | rfl | rfl | rfl | rfl | rfl | rfl <;>
      rcases (by omega : j = 0 ∨ j = 1 ∨ j = 2) with rfl | rfl | rfl <;> exact hj
  · have h4 := OwnS.at (w := w) rfl (Nat.le_refl _) (kr 4) (by decide)
    have h5 := OwnS.at (w := (w.alloc (.cells (stv (kr 4)).toArray 9))) (n := w.heap.size + 1) (B := w.heap.size) (by simp) (by omega) (kr 5) (by decide)
    have h6 := OwnS.at (w := ((w.alloc (.cells (stv (kr 4)).toArray 9)).alloc (.cells (stv (kr 5)).toArray 9))) (n := w.heap.size + 1 + 1) (B := w.heap.size) (by simp) (by omega) (kr 6) (by decide)
    have h7 := OwnS.at (w := (((w.alloc (.cells (stv (kr 4)).toArray 9)).alloc (.cells (stv (kr 5)).toArray 9)).alloc (.cells (stv (kr 6)).toArray 9))) (n := w.heap.size + 1 + 1 + 1) (B := w.heap.size) (by simp) (by omega) (kr 7) (by decide)
    rcases (by omega : i = 0 ∨ i = 1 ∨ i = 2 ∨ i = 3 ∨ i = 4 ∨ i = 5 ∨ i = 6 ∨ i = 7) with rfl | rfl | rfl | rfl | rfl | rfl | rfl | rfl
    · exact OwnS.nil _ _
    · exact OwnS.nil _ _
    · exact OwnS.nil _ _
    · exact OwnS.nil _ _
    · exact (((h4.below (below1 _ _)).below (below1 _ _)).below (below1 _ _)).below (below1 _ _)
    · exact ((h5.below (below1 _ _)).below (below1 _ _)).below (below1 _ _)
    · exact (h6.below (below1 _ _)).below (below1 _ _)
    · exact h7.below (below1 _ _)

set_option maxRecDepth 100000 in
set_option maxHeartbeats 4000000 in
theorem knownOnes_any (w : World) : Calls Try.prog 99 #[] w fun e w' => ∃ g, e = .returned (.slice (some ⟨g, 0, none⟩) 8 8) ∧ Below w.heap.size w w' ∧ w.heap.size ≤ g ∧ g < w'.heap.size ∧ (∀ i, i < 8 → w'.rangeAt g (i * 3) (kRow w.heap.size i)) ∧ ∀ i, i < 8 → OwnS w' w.heap.size (ks w.heap.size i) (kr i) := by
  go_enter Try.func99, Try.ntmps99
  go_wp2_with fail
  go_ret
  exact known_post w

theorem enters_find1 : Enters 101 := fun args w => by kernel_rfl
set_option maxRecDepth 100000 in
set_option maxHeartbeats 1000000 in
theorem find1_any (n i p1 : Nat) (s : ByteArray) (w : World) (h1 : w.cell? ⟨p1, 0, none⟩ = some (.string s)) :
    Calls Try.prog 101 #[.agg (kRow n i).toArray, .pointer (some ⟨p1, 0, none⟩)] w (Ret (.bool (kn i == s.toList)) w) := by
  have hlt : p1 < w.heap.size := World.block_lt_of_cell? w _ h1
  obtain ⟨L, hL⟩ : ∃ L, L = kn i := ⟨_, rfl⟩
  rw [kRow, ← hL]
  generalize kt i = u at *
  generalize ks n i = v at *
  clear hL
  have h2 : (w.alloc (.cells #[.string ⟨L.toArray⟩, .string u, v] 74)).cell? ⟨p1, 0, none⟩ = some (.string s) := (World.cell?_of_block (w := w) (a := ⟨p1, 0, none⟩) (Below.heap_alloc _ _ _ hlt)).trans h1
  go_enter Try.func101, Try.ntmps101
  go_wp2_with fail
  go_ret
  exact ⟨rfl, below1 _ _⟩

set_option maxRecDepth 100000 in
set_option maxHeartbeats 1000000 in
theorem indexFuncK_any (k : Nat) (hent : Enters k) (cap : Array Value) (g n c : Nat) (hn : n ≤ 1000000) (rv : Nat → List Value) (hl : ∀ i, (rv i).length = 3) (p : Nat → Bool) (w : World)
    (hc : ∀ i, i < n → w.rangeAt g (i * 3) (rv i)) (hf : ∀ W, Below w.heap.size w W → ∀ i, i < n → Calls Try.prog k (#[.agg (rv i).toArray] ++ cap) W (Ret (.bool (p i)) W)) :
    Calls Try.prog 100 #[.slice (some ⟨g, 0, none⟩) n c, .func (.func k) #[] cap] w (Ret (.int .i64 (idxN p n)) w) := by
  have hent' : ∀ args w, Sem.run Try.prog (callFunc k args) w = .ok (.enter k args) w := hent
  have HC := Lib.hid hc
  have HF := Lib.hid hf
  have HI := Lib.hid (fun i => (show (Try.prog.info? 74).map (·.size) = some (rv i).length by rw [hl i]; kernel_rfl))
  clear hc hf hent
  go_enter Try.func100, Try.ntmps100
  go_wp2_with fail
  go_loopw [8] (fun i wr => ∃ j : Nat, j ≤ n ∧ i = .int .i64 j ∧ Below w.heap.size w wr ∧ Hid (∀ i, i < j → p i = false)) (fun i _ => n - (intOf i).toNat)
  case atStart => exact ⟨0, Nat.zero_le _, rfl, Below.refl _ _, fun i hi => by omega⟩
  case round =>
    obtain ⟨j, hj, rfl, hb, HN⟩ := hrel
    by_cases hlt : j < n
    · have hr : wr.rangeAt g (j * 3) (rv j) := fun i v hi => by
        have h := HC.out j hlt i v hi
        exact (hb.cell (p := ⟨g, j * 3 + i, none⟩) (World.block_lt_of_cell? w _ h)).trans h
      have hi := HI.out j
      have i1 : (j : Int) < (n : Int) := by omega
      have i2 : (0 : Int) ≤ (j : Int) := by omega
      have hcall : Hid (Calls Try.prog k (#[.agg (rv j).toArray] ++ cap) wr (Ret (.bool (p j)) wr)) := HF.out wr hb j hlt
      generalize rv j = v at *
      have HI1 := Lib.hid hi
      clear hi
      go_wp2_with ((with_reducible refine ld_row ?_ 74 (.tmp 14) ?_ g (j * 3) ?_ v (.struct _) hr Try.underlying74 ?_ HI1.out ?_); exact rfl; exact rfl; exact rfl; exact rfl)
      refine hcall.out.mono ?_
      rintro e w1 ⟨rfl, hb1⟩
      have hbb := hb.trans (hb1.mono hb.size)
      clear hcall hr
      cases hp : p j
      · have HJ : Hid (∀ i, i < j + 1 → p i = false) := fun i hi => by
          by_cases e : i = j
          · subst e; exact hp
          · exact HN.out i (by omega)
        clear hp
        go_wp2_with fail
        go_roundw
        case rel => exact ⟨j + 1, by omega, by go_num, hbb, HJ⟩
        case measure => simp [intOf] <;> omega
      · have HJ := Lib.hid (idxN_hit hlt hp HN.out)
        clear hp
        go_wp2_with fail
        go_ret
        exact ⟨ret_int HJ.out.symm, hbb⟩
    · have HJ := Lib.hid (idxN_none (p := p) (n := n) (fun i hi => HN.out i (by omega)))
      have hj' : ¬ (j : Int) < n := by omega
      go_wp2_with fail
      go_ret
      exact ⟨ret_int HJ.out.symm, hb⟩
end Go.Proofs.Ytmacnofkpdikiaa
