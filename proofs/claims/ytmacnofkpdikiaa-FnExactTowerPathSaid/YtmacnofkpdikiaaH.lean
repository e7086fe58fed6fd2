/- The move of a tower. -/
import Derived.Test.YtmacnofkpdikiaaG
import Derived.Lib.ConvBytes
import Derived.Laws.BytesArg
namespace Go.Proofs.Ytmacnofkpdikiaa
open Go.RowKit
set_option linter.unusedVariables false
set_option linter.unusedSimpArgs false

/-- '[]byte(s)' lays a new row with the bytes of s -/
theorem bytes_of (w : World) (S D E : TypeId) (s : ByteArray) {P : Program} (hs : P.underlying S = some .string) (hd : P.underlying D = some (.slice E)) (he : P.underlying E = some (.int .u8)) :
    ∃ W1 cap, (convert S D (.string s)).run P w = .ok (.slice (some ⟨w.heap.size, 0, none⟩) s.size cap) W1 ∧
      (∀ j, j < s.size → W1.cell? ⟨w.heap.size, j, none⟩ = some (.int .u8 (s.data.toList.getD j 0).toNat)) ∧ (∀ j, j < s.size → W1.frozen? ⟨w.heap.size, j, none⟩ = false) ∧
      Below w.heap.size w W1 ∧ W1.heap.size = w.heap.size + 1 := by
  refine ⟨_, _, Lib.run_convert_string_bytes w S D E s hs hd he, fun j hj => Lib.bytesWorld_cell w E s j hj, fun j hj => ?_, ⟨rfl, rfl, rfl, ?_, fun k hk => Lib.bytesWorld_at_old w E s k hk⟩, Lib.bytesWorld_size w E s⟩
  · have : j < (Lib.bytesCells w E s).size := by simp [Lib.bytesCells]; have : s.data.size = s.size := rfl; omega
    simp only [World.frozen?, Lib.bytesWorld_at_new]
    simp
    omega
  · rw [Lib.bytesWorld_size]; omega

theorem vstr {a b : ByteArray} (h : a = b) : Value.string a = .string b := by rw [h]

def nums (s : ByteArray) : List Int := s.data.toList.map fun b => (b.toNat : Int)
theorem nums_length (s : ByteArray) : (nums s).length = s.size := by simp [nums]
theorem str_nums (s : ByteArray) : strOfNums (nums s) = s := by
  cases s with | mk d =>
  simp only [strOfNums, nums, List.map_map]
  congr 1
  have : d.toList.map ((fun n : Int => UInt8.ofNat n.toNat) ∘ fun b : UInt8 => (b.toNat : Int)) = d.toList := by
    conv => rhs; rw [← List.map_id d.toList]
    apply List.map_congr_left
    intro b _
    simp
  rw [this]
theorem nums_get {s : ByteArray} {k : Nat} (hk : k < s.size) : (nums s)[k]? = some ((s.data.toList.getD k 0).toNat : Int) := by
  have : k < s.data.toList.length := by simpa using hk
  simp [nums, List.getD, List.getElem?_eq_getElem this]

/-- the first number that is x or y becomes the other one -/
def movB (x y : Int) : List Int → List Int
  | [] => []
  | c :: t => if c = x then y :: t else if c = y then x :: t else c :: movB x y t
theorem movB_x {x y : Int} : ∀ (l : List Int) (k : Nat), (∀ j, j < k → ∀ c, l[j]? = some c → c ≠ x ∧ c ≠ y) → l[k]? = some x → movB x y l = l.set k y
  | [], k, _, h => by simp at h
  | c :: t, 0, _, h => by simp at h; simp [movB, h]
  | c :: t, k + 1, hp, h => by
    have h0 := hp 0 (by omega) c rfl
    rw [movB, if_neg h0.1, if_neg h0.2, movB_x t k (fun j hj c' hc => hp (j + 1) (by omega) c' hc) (by simpa using h)]
    rfl
theorem movB_y {x y : Int} (hxy : x ≠ y) : ∀ (l : List Int) (k : Nat), (∀ j, j < k → ∀ c, l[j]? = some c → c ≠ x ∧ c ≠ y) → l[k]? = some y → movB x y l = l.set k x
  | [], k, _, h => by simp at h
  | c :: t, 0, _, h => by simp at h; simp [movB, h, hxy.symm]
  | c :: t, k + 1, hp, h => by
    have h0 := hp 0 (by omega) c rfl
    rw [movB, if_neg h0.1, if_neg h0.2, movB_y hxy t k (fun j hj c' hc => hp (j + 1) (by omega) c' hc) (by simpa using h)]
    rfl
theorem movB_none {x y : Int} : ∀ (l : List Int), (∀ (j : Nat), ∀ c, l[j]? = some c → c ≠ x ∧ c ≠ y) → movB x y l = l
  | [], _ => rfl
  | c :: t, hp => by
    have h0 := hp 0 c rfl
    rw [movB, if_neg h0.1, if_neg h0.2, movB_none t (fun j c' hc => hp (j + 1) c' hc)]
def movS (x y : Int) (s : ByteArray) : ByteArray := strOfNums (movB x y (nums s))

/-- no byte before k is x or y -/
def Clean (x y : Int) (s : ByteArray) (k : Nat) : Prop := ∀ j, j < k → ∀ c, (nums s)[j]? = some c → c ≠ x ∧ c ≠ y
theorem Clean.step {x y : Int} {s : ByteArray} {k : Nat} (h : Clean x y s k) {c : Int} (hc : (nums s)[k]? = some c) (h1 : c ≠ x) (h2 : c ≠ y) : Clean x y s (k + 1) := fun j hj d hd => by
  rcases Nat.lt_or_eq_of_le (Nat.lt_succ_iff.1 hj) with h' | h'
  · exact h j h' d hd
  · subst h'
    rw [hc] at hd
    obtain rfl := Option.some.inj hd
    exact ⟨h1, h2⟩

theorem back_of (W : World) (B n cap k : Nat) (s : ByteArray) (v : Int) (hv : 0 ≤ v ∧ v ≤ 255) (hk : k < s.size) {P : Program} {S D E : TypeId} (hs : P.underlying D = some (.slice E)) (he : P.underlying E = some (.int .u8)) (hd : P.underlying S = some .string)
    (hc : ∀ j, j < s.size → W.cell? ⟨B, j, none⟩ = some (.int .u8 (s.data.toList.getD j 0).toNat)) :
    (convert D S (.slice (some ⟨B, 0, none⟩) s.size cap)).run P (W.setCell ⟨B, k, none⟩ (.int .u8 v)) = .ok (.string (strOfNums ((nums s).set k v))) (W.setCell ⟨B, k, none⟩ (.int .u8 v)) := by
  refine run_convert_bytes_arg _ D E hs he B 0 s.size cap ((nums s).set k v) (by simp [nums_length]) (fun i hi => ?_) S hd
  rw [Nat.zero_add]
  by_cases e : i = k
  · subst e
    rw [World.cell?_setCell_same _ _ _ (hc i hi)]
    simp [List.getD, List.getElem?_set, nums_length, hk]
  · rw [World.cell?_setCell_other _ _ _ _ (by simp only [ne_eq, Addr.mk.injEq, true_and, and_true]; omega), hc i hi]
    simp only [List.getD]
    rw [List.getElem?_set_ne (by omega), nums_get hi]
    rfl

set_option maxHeartbeats 1000000 in
theorem l08Move_any (s : ByteArray) (hs : Short s) (x y : Int) (hx : 0 ≤ x ∧ x ≤ 255) (hy : 0 ≤ y ∧ y ≤ 255) (hxy : x ≠ y) (w : World) :
    Calls Try.prog 54 #[.string s, .int .u8 x, .int .u8 y] w (Ret (.string (movS x y s)) w) := by
  obtain ⟨W1, cap, hrun, hcell, hfree, hb, hsz⟩ := bytes_of w 9 82 5 s (P := Try.prog) Try.underlying9 Try.underlying82 Try.underlying5
  have HSZ := Lib.hid hsz
  have HXY := Lib.hid hxy
  clear hxy
  have hs' : s.size ≤ 9223372036854775807 := hs
  clear hsz
  go_enter Try.func54, Try.ntmps54
  go_wp2
  obtain ⟨B, hB⟩ : ∃ B, B = w.heap.size := ⟨_, rfl⟩
  rw [← hB] at hcell hfree hrun
  rw [← hB]
  have HB := Lib.hid hB
  clear hB
  clear hrun
  go_loop [6, 8] (fun r i => ∃ k : Nat, k ≤ s.size ∧ i = .int .i64 k ∧ Clean x y s k ∧ r = .string ByteArray.empty) (fun _ i => s.size - (intOf i).toNat)
  case atStart => exact ⟨0, Nat.zero_le _, rfl, fun j hj => by omega, rfl⟩
  case round =>
    obtain ⟨k, hk, rfl, hC, rfl⟩ := hrel
    have HC := Lib.hid hC
    clear hC
    by_cases hlt : k < s.size
    · have hck := hcell k hlt
      have hfk := hfree k hlt
      have hn := nums_get hlt
      have hcb : ((s.data.toList.getD k 0).toNat : Int) ≤ 255 := by have := (s.data.toList.getD k 0).toNat_lt; omega
      have hca : (0 : Int) ≤ ((s.data.toList.getD k 0).toNat : Int) := by omega
      have cx := back_of W1 B s.size cap k s x hx hlt (P := Try.prog) (S := 9) Try.underlying82 Try.underlying5 Try.underlying9 hcell
      have cy := back_of W1 B s.size cap k s y hy hlt (P := Try.prog) (S := 9) Try.underlying82 Try.underlying5 Try.underlying9 hcell
      obtain ⟨c, hc⟩ : ∃ c, c = ((s.data.toList.getD k 0).toNat : Int) := ⟨_, rfl⟩
      rw [← hc] at hck hn hcb hca
      have HN := Lib.hid hn
      clear hc hcell hfree hn
      have i1 : (0 : Int) ≤ (k : Int) := by omega
      have i2 : (k : Int) < s.size := by omega
      by_cases e1 : c = x
      · subst e1
        have HF := Lib.hid (movB_x _ k HC.out HN.out)
        clear cx
        obtain ⟨R, hR⟩ : ∃ R, R = strOfNums ((nums s).set k y) := ⟨_, rfl⟩
        rw [← hR] at cy
        have HR := Lib.hid hR
        clear hR
        go_wp2
        go_ret
        exact ⟨ret_of_eq (vstr (a := R) (by rw [HR.out, movS, HF.out])), hb.setCell (by rw [HB.out]; exact Nat.le_refl _) _⟩
      · by_cases e2 : c = y
        · have e1' : (c == x) = false := by simpa using e1
          clear e1
          subst e2
          have HF := Lib.hid (movB_y HXY.out _ k HC.out HN.out)
          clear cy
          obtain ⟨R, hR⟩ : ∃ R, R = strOfNums ((nums s).set k x) := ⟨_, rfl⟩
          rw [← hR] at cx
          have HR := Lib.hid hR
          clear hR
          go_wp2
          go_ret
          exact ⟨ret_of_eq (vstr (a := R) (by rw [HR.out, movS, HF.out])), hb.setCell (by rw [HB.out]; exact Nat.le_refl _) _⟩
        · have HS := Lib.hid (HC.out.step HN.out e1 e2)
          clear cx cy
          go_wp2
          go_round
          case rel => exact ⟨k + 1, by omega, by go_num, HS.out, rfl⟩
          case measure => simp [intOf]; omega
    · have hk' : k = s.size := by omega
      subst hk'
      have HF := Lib.hid (movB_none (nums s) (fun j c hc => HC.out j (by have := (List.getElem?_eq_some_iff.1 hc).1; rwa [nums_length] at this) c hc))
      go_wp2
      go_ret
      exact ⟨ret_of_eq (vstr (a := s) (by rw [movS, HF.out, str_nums])), hb⟩

set_option maxHeartbeats 1000000 in
theorem move_any (s : ByteArray) (hs : Short s) (x y : Int) (hx : 0 ≤ x ∧ x ≤ 2) (hy : 0 ≤ y ∧ y ≤ 2) (hxy : x ≠ y) (w : World) :
    Calls Try.prog 57 #[.string s, .int .i64 x, .int .i64 y] w (Ret (.string (movS (48 + x) (48 + y) s)) w) := by
  obtain ⟨W1, cap, hrun, hcell, hfree, hb, hsz⟩ := bytes_of w 9 82 5 s (P := Try.prog) Try.underlying9 Try.underlying82 Try.underlying5
  have HSZ := Lib.hid hsz
  have HXY := Lib.hid hxy
  clear hxy
  have hs' : s.size ≤ 9223372036854775807 := hs
  clear hsz
  go_enter Try.func57, Try.ntmps57
  go_wp2
  obtain ⟨B, hB⟩ : ∃ B, B = w.heap.size := ⟨_, rfl⟩
  rw [← hB] at hcell hfree hrun
  rw [← hB]
  have HB := Lib.hid hB
  clear hB
  clear hrun
  go_loop [6, 14] (fun r i => ∃ k : Nat, k ≤ s.size ∧ i = .int .i64 k ∧ Clean (48 + x) (48 + y) s k ∧ r = .string ByteArray.empty) (fun _ i => s.size - (intOf i).toNat)
  case atStart => exact ⟨0, Nat.zero_le _, rfl, fun j hj => by omega, rfl⟩
  case round =>
    obtain ⟨k, hk, rfl, hC, rfl⟩ := hrel
    have HC := Lib.hid hC
    clear hC
    by_cases hlt : k < s.size
    · have hck := hcell k hlt
      have hfk := hfree k hlt
      have hn := nums_get hlt
      have hcb : ((s.data.toList.getD k 0).toNat : Int) ≤ 255 := by have := (s.data.toList.getD k 0).toNat_lt; omega
      have hca : (0 : Int) ≤ ((s.data.toList.getD k 0).toNat : Int) := by omega
      have cx := back_of W1 B s.size cap k s (48 + x) (by omega) hlt (P := Try.prog) (S := 9) Try.underlying82 Try.underlying5 Try.underlying9 hcell
      have cy := back_of W1 B s.size cap k s (48 + y) (by omega) hlt (P := Try.prog) (S := 9) Try.underlying82 Try.underlying5 Try.underlying9 hcell
      obtain ⟨c, hc⟩ : ∃ c, c = ((s.data.toList.getD k 0).toNat : Int) := ⟨_, rfl⟩
      rw [← hc] at hck hn hcb hca
      have HN := Lib.hid hn
      clear hc hcell hfree hn
      have i1 : (0 : Int) ≤ (k : Int) := by omega
      have i2 : (k : Int) < s.size := by omega
      by_cases e1 : c = 48 + x
      · subst e1
        have HF := Lib.hid (movB_x _ k HC.out HN.out)
        clear cx
        obtain ⟨R, hR⟩ : ∃ R, R = strOfNums ((nums s).set k (48 + y)) := ⟨_, rfl⟩
        rw [← hR] at cy
        have HR := Lib.hid hR
        clear hR
        go_wp2_with (go_at_call 98; refine (letter_any _ (by omega) (by omega) _).mono ?_; rintro e w' ⟨rfl, rfl⟩)
        go_ret
        exact ⟨ret_of_eq (vstr (a := R) (by rw [HR.out, movS, HF.out])), hb.setCell (by rw [HB.out]; exact Nat.le_refl _) _⟩
      · by_cases e2 : c = 48 + y
        · have e1' : (c == 48 + x) = false := by simpa using e1
          clear e1
          subst e2
          have HF := Lib.hid (movB_y (by have := HXY.out; omega) _ k HC.out HN.out)
          clear cy
          obtain ⟨R, hR⟩ : ∃ R, R = strOfNums ((nums s).set k (48 + x)) := ⟨_, rfl⟩
          rw [← hR] at cx
          have HR := Lib.hid hR
          clear hR
          go_wp2_with (go_at_call 98; refine (letter_any _ (by omega) (by omega) _).mono ?_; rintro e w' ⟨rfl, rfl⟩)
          go_ret
          exact ⟨ret_of_eq (vstr (a := R) (by rw [HR.out, movS, HF.out])), hb.setCell (by rw [HB.out]; exact Nat.le_refl _) _⟩
        · have HS := Lib.hid (HC.out.step HN.out e1 e2)
          clear cx cy
          go_wp2_with (go_at_call 98; refine (letter_any _ (by omega) (by omega) _).mono ?_; rintro e w' ⟨rfl, rfl⟩)
          go_round
          case rel => exact ⟨k + 1, by omega, by go_num, HS.out, rfl⟩
          case measure => simp [intOf]; omega
    · have hk' : k = s.size := by omega
      subst hk'
      have HF := Lib.hid (movB_none (nums s) (fun j c hc => HC.out j (by have := (List.getElem?_eq_some_iff.1 hc).1; rwa [nums_length] at this) c hc))
      go_wp2
      go_ret
      exact ⟨ret_of_eq (vstr (a := s) (by rw [movS, HF.out, str_nums])), hb⟩
end Go.Proofs.Ytmacnofkpdikiaa
