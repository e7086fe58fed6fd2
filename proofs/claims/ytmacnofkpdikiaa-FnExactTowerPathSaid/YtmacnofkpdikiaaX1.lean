/- lead: what a state makes of a word, and its section there. -/
import Derived.Test.YtmacnofkpdikiaaW1
namespace Go.Proofs.Ytmacnofkpdikiaa
open Go.RowKit
set_option linter.unusedVariables false
set_option linter.unusedSimpArgs false

/-- 'make([]byte, n)' -/
theorem mk_u8 (n : Nat) (hn : n ≤ 100000) (u : World) : (Instr.makeSlice 82 (.int .i64 (n : Int)) (.int .i64 (n : Int))).run Try.prog u =
    .ok (.slice (some ⟨u.heap.size, 0, none⟩) n n) (u.alloc (.cells (madeCells #[.int .u8 0] n) 5)) := by
  obtain ⟨i0, hi, hz0, hz1, hz2⟩ := info_parts Try.info5
  have h := run_make (P := Try.prog) u 82 5 i0 (.int .u8 0) Try.underlying82 hi hz0 .i64 .i64 (n : Int) (n : Int) (by omega) (Int.le_refl _) (by rw [hz2]; omega) (by omega)
  simpa [hz1, Value.cells] using h
theorem made_u8 (n : Nat) : (madeCells #[Value.int .u8 0] n).toList = u8s (List.replicate n 0) := by
  have : (madeCells #[Value.int .u8 0] n).toList = (List.range n).map fun _ => Value.int .u8 0 := by
    simp only [madeCells, Array.toList_map, Array.toList_range]
    exact List.map_congr_left fun x _ => by simp [Nat.mod_one]
  rw [this, u8s, List.map_const', List.length_range, List.map_replicate]

def outsZ (m : Mch) (q : Nat) (s : ByteArray) (k : Nat) : List Int := outsP m q s k ++ List.replicate (s.size - k) 0
theorem outsZ_step {m : Mch} {q : Nat} {s : ByteArray} {k : Nat} (hk : k < s.size) {x : Nat} (hx : (s[k]).toNat - 48 = x) :
    (u8s (outsZ m q s k)).set k (.int .u8 ((48 + m.on (secP m q s k) x : Nat) : Int)) = u8s (outsZ m q s (k + 1)) := by
  have hl : (outsP m q s k).length = k := outsP_length (by omega)
  simp only [outsZ, u8s, outsP_succ hk, hx, List.map_append]
  rw [List.set_append_right _ _ (by simp [hl]), List.append_assoc]
  congr 1
  rw [show s.size - k = (s.size - (k + 1)) + 1 by omega, List.replicate_succ]
  simp [hl]

set_option maxRecDepth 100000 in
set_option maxHeartbeats 2000000 in
theorem lead_any (b o : Nat) (m : Mch) (hwf : m.Wf) (hok : m.Ok) (q : Nat) (hq : q < m.s) (s : ByteArray) (hs : letsP m.L s = true) (h40 : s.size ≤ 40) (w : World) (hm : MAt w b o m) :
    Calls Try.prog 76 #[.pointer (some ⟨b, o, none⟩), .int .i64 q, .string s] w fun e w' => e = .returned (.tuple #[.string (txt (runL m q (lts s)).1), .int .i64 (runL m q (lts s)).2]) ∧ Below w.heap.size w w' := by
  have hbw : b < w.heap.size := World.block_lt_of_cell? w ⟨b, o, none⟩ hm.l
  have hmk := mk_u8 s.size (by omega) w
  have HS := Lib.hid hs
  have HQ := Lib.hid hq
  clear hs hq
  go_enter Try.func76, Try.ntmps76
  go_wp2
  clear hmk
  go_loopw [1, 16] (fun qv i wr => ∃ k : Nat, k ≤ s.size ∧ i = .int .i64 k ∧ qv = .int .i64 (secP m q s k) ∧ Blk wr w.heap.size (u8s (outsZ m q s k)) 5 ∧ MAt wr b o m ∧ Below w.heap.size w wr) (fun _ i _ => s.size - (intOf i).toNat)
  case atStart =>
    have h0 := Blk.new w (madeCells #[Value.int .u8 0] s.size) 5
    rw [made_u8] at h0
    exact ⟨0, Nat.zero_le _, rfl, rfl, by simpa [outsZ, outsP, runL] using h0, hm.alloc hbw _, boxedBelow _ _ _⟩
  case round =>
    obtain ⟨k, hk, rfl, rfl, hB, hmr, hbr⟩ := hrel
    by_cases hlt : k < s.size
    · obtain ⟨x, hx⟩ : ∃ x : Nat, (s[k]).toNat = 48 + x := ⟨(s[k]).toNat - 48, by have := (lets_at HS.out hlt).1; omega⟩
      have hxL : x < m.l := by have := (lets_at HS.out hlt).2; have := hok.L_eq; omega
      have hx3 : x < 3 := by have := hok.l_le; omega
      have hqs := secP_lt hok hwf HQ.out HS.out k
      have hq16 : secP m q s k < 16 := by have := hok.s_le; omega
      have hy := hok.on_lt hwf hqs hxL
      have hy3 : m.on (secP m q s k) x < 3 := by have := hok.l_le; omega
      have hn16 : m.nn (secP m q s k) x < 16 := by have := hok.nn_lt hwf hqs hxL; have := hok.s_le; omega
      have HO := Lib.hid (outsZ_step (m := m) (q := q) hlt (x := x) (by omega))
      have HT := Lib.hid (show secP m q s (k + 1) = m.nn (secP m q s k) x by rw [secP_succ hlt, hx, Nat.add_sub_cancel_left])
      have EO := Lib.hid (hok.o_eq hwf hqs hxL)
      have EN := Lib.hid (hok.n_eq hwf hqs hxL)
      have hck : ∃ u, wr.cell? ⟨w.heap.size, k, none⟩ = some (.int .u8 u) := ⟨_, hB.cell' (u8s_get (by simp [outsZ, outsP_length hk]; omega))⟩
      obtain ⟨u, hck⟩ := hck
      have hfk := hB.free k
      have hbx : ((s[k]).toNat : Int) = 48 + (x : Int) := by omega
      clear hx hxL hqs hm hy
      have i2 : (x : Int) < 3 := by omega
      have i1 : (0 : Int) ≤ (k : Int) := by omega
      have i4 : (k : Int) < s.size := by omega
      obtain ⟨p, hp⟩ : ∃ p, p = secP m q s k := ⟨_, rfl⟩
      rw [← hp] at hq16 EO EN HO HT hy3 hn16
      rw [← hp]
      have HP := Lib.hid hp
      clear hp
      go_wp2_with fail
      refine (out_any b o m hwf _ _ (by omega) (by omega) _ hmr).mono ?_
      rintro e w' ⟨rfl, rfl⟩
      rw [Int.toNat_natCast, show (48 + (x : Int) - 48).toNat = x by omega, EO.out]
      go_wp2_with (go_at_call 98; refine (letter_any _ (by omega) (by omega) _).mono ?_; rintro e w' ⟨rfl, rfl⟩)
      have hB2 := hB.setCell k (.int .u8 (48 + (m.on p x : Int)))
      have hm2 := hmr.setCell (a := ⟨w.heap.size, k, none⟩) (by simp only; omega) (.int .u8 (48 + (m.on p x : Int)))
      have hb2 := hbr.setCell (p := ⟨w.heap.size, k, none⟩) (Nat.le_refl _) (.int .u8 (48 + (m.on p x : Int)))
      refine (next_any b o m hwf _ _ (by omega) (by omega) _ hm2).mono ?_
      rintro e w' ⟨rfl, rfl⟩
      rw [Int.toNat_natCast, show (48 + (x : Int) - 48).toNat = x by omega, EN.out]
      go_wp2
      go_roundw
      case rel => exact ⟨k + 1, by omega, by go_num, by rw [HT.out], by rw [← HO.out]; exact hB2, hm2, hb2⟩
      case measure => simp [intOf]; omega
    · have hk' : k = s.size := by omega
      subst hk'
      have hz : outsZ m q s s.size = outsP m q s s.size := by simp [outsZ]
      rw [hz] at hB
      have hcv := run_convert_bytes_arg wr 82 5 Try.underlying82 Try.underlying5 w.heap.size 0 s.size s.size (outsP m q s s.size) (outsP_length (Nat.le_refl _)) (fun i hi => by
        rw [Nat.zero_add]; exact hB.cell' (u8s_get (by rw [outsP_length (Nat.le_refl _)]; exact hi))) 9 Try.underlying9
      have HT := Lib.hid (outsP_all (m := m) (q := q) (s := s))
      have HU := Lib.hid (secP_all (m := m) (q := q) (s := s))
      clear hz
      go_wp2
      go_ret2
      exact ⟨ret2_of HT.out (by rw [HU.out]), hbr⟩
end Go.Proofs.Ytmacnofkpdikiaa
