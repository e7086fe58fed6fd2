/- What the laws ask of a result that is a slice of strings (at most eight of them). -/
import Derived.Test.YtmacnofkpdikiaaP1
import Derived.Test.YtmacnofkpdikiaaV2
import Derived.Test.YtmacnofkpdikiaaMB
namespace Go.Proofs.Ytmacnofkpdikiaa
open Go.RowKit
set_option linter.unusedVariables false
set_option linter.unusedSimpArgs false

def stv (xs : List ByteArray) : List Value := xs.map Value.string
theorem stv_get {xs : List ByteArray} {i : Nat} (h : i < xs.length) : (stv xs)[i]? = some (.string (xs[i]?.getD ByteArray.empty)) := by simp [stv, h]
/-- v is a slice of the strings xs, in memory from B on that is its own -/
def OwnS (w : World) (B : Nat) (v : Value) (xs : List ByteArray) : Prop := w.ownsRow B 9 1 v xs.length (stv xs)
theorem OwnS.below {w w' : World} {B : Nat} {v : Value} {xs : List ByteArray} (h : OwnS w B v xs) (hb : Below w.heap.size w w') : OwnS w' B v xs := by
  have hg : w.grownBy w' none := ⟨hb.os, hb.tape, hb.output, hb.size, fun k hk _ => hb.block k hk⟩
  exact World.ownsRow.kept h hg (by by_cases e : v.ownBlock = none <;> simp [e])
theorem OwnS.less {w : World} {B C : Nat} {v : Value} {xs : List ByteArray} (h : OwnS w B v xs) (hC : C ≤ B) : OwnS w C v xs := by
  refine ⟨h.1, ?_⟩
  rcases h.2 with hn | ⟨g, cap, cur, hv, h1, rest⟩
  · exact .inl hn
  · exact .inr ⟨g, cap, cur, hv, by omega, rest⟩
def StrAt (w : World) (a : Option Addr) (xs : List ByteArray) : Prop := ∀ i, i < xs.length → ∃ b off, a = some ⟨b, off, none⟩ ∧ w.cell? ⟨b, off + i, none⟩ = some (.string (xs[i]?.getD ByteArray.empty))
theorem StrAt.below {w w' : World} {a : Option Addr} {xs : List ByteArray} (h : StrAt w a xs) (hb : Below w.heap.size w w') : StrAt w' a xs := fun i hi => by
  obtain ⟨b, off, ha, hc⟩ := h i hi
  exact ⟨b, off, ha, (hb.cell (p := ⟨b, off + i, none⟩) (World.block_lt_of_cell? w _ hc)).trans hc⟩
theorem OwnS.form {w : World} {B : Nat} {v : Value} {xs : List ByteArray} (h : OwnS w B v xs) : ∃ a c, v = .slice a xs.length c ∧ StrAt w a xs := by
  rcases h.2 with ⟨rfl, h0⟩ | ⟨g, cap, cur, rfl, h1, hg, h2, h3, h4, h5⟩
  · exact ⟨none, 0, by rw [h0], fun i hi => by omega⟩
  · refine ⟨some ⟨g, 0, none⟩, cap, rfl, fun i hi => ⟨g, 0, rfl, ?_⟩⟩
    rw [Nat.zero_add]
    have := World.ownsRow.cellAt h i (by omega)
    rw [this, stv_get hi]
theorem OwnS.nil (w : World) (B : Nat) : OwnS w B (.slice none 0 0) [] := World.ownsRow_nil _ _ _ _

set_option maxHeartbeats 1000000 in
theorem eqS_same (a b : Option Addr) (c d : Nat) (xs : List ByteArray) (hx : xs.length ≤ 1000) (w : World) (ha : StrAt w a xs) (hb : StrAt w b xs) :
    Calls Try.prog 19 #[.slice a xs.length c, .slice b xs.length d] w (RetQ (.bool true) w) := by
  have HA := Lib.hid ha
  have HB := Lib.hid hb
  clear ha hb
  go_enter Try.func19, Try.ntmps19
  go_wp2
  go_loopw [5] (fun i wr => ∃ k : Nat, k ≤ xs.length ∧ i = .int .i64 k ∧ Hid (∃ n, wr = w.drewN n)) (fun i _ => xs.length - (intOf i).toNat)
  case atStart => exact ⟨0, Nat.zero_le _, rfl, 0, rfl⟩
  case round =>
    obtain ⟨k, hk, rfl, HW⟩ := hrel
    by_cases hlt : k < xs.length
    · obtain ⟨g, off, rfl, hc⟩ := HA.out k hlt
      obtain ⟨g', off', rfl, hc'⟩ := HB.out k hlt
      have hcell : ∀ a, wr.cell? a = w.cell? a := fun a => by obtain ⟨n, hn⟩ := HW.out; rw [hn]; rfl
      rw [← hcell] at hc hc'
      clear hcell
      have i1 : (0 : Int) ≤ (k : Int) := by omega
      have i2 : (k : Int) < (xs.length : Int) := by omega
      generalize xs[k]?.getD ByteArray.empty = x at *
      go_wp2
      go_quiet (fail)
      go_wp2
      go_roundw
      case rel => exact ⟨k + 1, by omega, by go_num, by obtain ⟨n, hn⟩ := HW.out; rw [hn]; exact dN2 _ _ _⟩
      case measure => simp [intOf] <;> omega
    · go_wp2
      go_ret
      exact ⟨rfl, HW.out⟩

/-- the marks' texts -/
def mtx (k : Nat) : ByteArray := ⟨#[109]⟩ ++ (strOfNums [48 + (k : Int)] ++ ⟨#[]⟩)
set_option maxRecDepth 100000 in
set_option maxHeartbeats 2000000 in
theorem markText_any (k : Nat) (h1 : 1 ≤ k) (h9 : k ≤ 9) (w : World) : Calls Try.prog 60 #[.int .i64 (k : Int)] w (Ret (.string (mtx k)) w) := by
  have i1 : ¬ (k : Int) ≤ 0 := by omega
  have i2 : (0 : Int) < (k : Int) := by omega
  have i3 : (k : Int) ≤ 9 := by omega
  have q1 : Int.tmod (k : Int) 10 = (k : Int) := by rw [Int.tmod_eq_emod_of_nonneg (by omega)]; omega
  have q2 : Int.tdiv (k : Int) 10 = 0 := by rw [Int.tdiv_eq_ediv_of_nonneg (by omega)]; omega
  have hcv : ∀ W : World, (convert 82 9 (.slice (some ⟨W.heap.size, 0, none⟩) 1 1)).run Try.prog (W.alloc (.cells #[.int .u8 (48 + (k : Int))] 5)) = .ok (.string (strOfNums [48 + (k : Int)])) (W.alloc (.cells #[.int .u8 (48 + (k : Int))] 5)) := fun W => by
    have hk := Blk.new W #[.int .u8 (48 + (k : Int))] 5
    exact run_convert_bytes_arg _ 82 5 Try.underlying82 Try.underlying5 _ 0 1 1 [48 + (k : Int)] rfl (fun i hi => by obtain rfl : i = 0 := (by simpa using hi); exact hk.cell' rfl) 9 Try.underlying9
  have HCV := Lib.hid hcv
  clear hcv
  go_enter Try.func60, Try.ntmps60
  go_wp2_with fail
  refine wp_loop_rounds 2 ?_
  rw [rounds_succ]
  have hcv := HCV.out w
  go_wp2_with fail
  rw [rounds_succ]
  go_wp2_with fail
  go_ret
  exact ⟨rfl, (Below.refl _ _).alloc (Nat.le_refl _) _⟩

def marksS (k n : Nat) : List ByteArray := (List.range n).map fun i => mtx (k + i)
theorem marksS_length (k n : Nat) : (marksS k n).length = n := by simp [marksS]
theorem marksS_get {k n i : Nat} (h : i < n) : (marksS k n)[i]?.getD ByteArray.empty = mtx (k + i) := by simp [marksS, h]
def mixS (k i : Nat) (xs : List ByteArray) : List ByteArray := marksS k i ++ xs.drop i
theorem mixS_length (k i : Nat) (xs : List ByteArray) (h : i ≤ xs.length) : (mixS k i xs).length = xs.length := by simp [mixS, marksS_length]; omega
theorem mixS_succ (k i : Nat) (xs : List ByteArray) (h : i < xs.length) : (stv (mixS k i xs)).set i (.string (mtx (k + i))) = stv (mixS k (i + 1) xs) := by
  have e : marksS k (i + 1) = marksS k i ++ [mtx (k + i)] := by simp [marksS, List.range_succ]
  simp only [mixS, stv, e, List.map_append]
  rw [List.set_append_right _ _ (by simp [marksS_length]), List.append_assoc]
  congr 1
  rw [show i - ((marksS k i).map Value.string).length = 0 by simp [marksS_length], List.drop_eq_getElem_cons h, List.map_cons, List.set_cons_zero]
  rfl
theorem mixS_all (k : Nat) (xs : List ByteArray) : mixS k xs.length xs = marksS k xs.length := by simp [mixS]

set_option maxRecDepth 100000 in
set_option maxHeartbeats 2000000 in
theorem markS_any (B : Nat) (v : Value) (xs : List ByteArray) (k : Nat) (hk1 : 1 ≤ k) (hk : k + xs.length ≤ 9) (w : World) (hB : B ≤ w.heap.size) (h : OwnS w B v xs) :
    Calls Try.prog 20 #[v, .int .i64 (k : Int)] w fun e w' => e = .returned (.int .i64 ((k + xs.length : Nat) : Int)) ∧ Below B w w' ∧ OwnS w' B v (marksS k xs.length) := by
  obtain ⟨a, c, rfl, -⟩ := h.form
  have H0 : Hid (OwnS w B (.slice a xs.length c) (mixS k 0 xs)) := by
    show OwnS _ _ _ _
    simpa [mixS, marksS] using h
  clear h
  go_enter Try.func20, Try.ntmps20
  go_wp2_with fail
  go_loopw [1, 5] (fun u i wr => ∃ j : Nat, j ≤ xs.length ∧ i = .int .i64 j ∧ u = .int .i64 ((k + j : Nat) : Int) ∧ Below B w wr ∧ Hid (OwnS wr B (.slice a xs.length c) (mixS k j xs))) (fun _ i _ => xs.length - (intOf i).toNat)
  case atStart => exact ⟨0, Nat.zero_le _, rfl, rfl, Below.refl _ _, H0⟩
  case round =>
    clear H0
    obtain ⟨j, hj, rfl, rfl, hb, HO⟩ := hrel
    by_cases hlt : j < xs.length
    · have i1 : (0 : Int) ≤ (j : Int) := by omega
      have i2 : (j : Int) < (xs.length : Int) := by omega
      have i3 : k + j ≤ 9 := by omega
      go_wp2_with fail
      refine (markText_any (k + j) (by omega) i3 _).mono ?_
      rintro e w1 ⟨rfl, hb1⟩
      have hbb := hb.trans (hb1.mono (Nat.le_trans hB hb.size))
      have hO := HO.out.below hb1
      have hlen := mixS_length k j xs hj
      obtain ⟨g, rfl, hgB⟩ : ∃ g, a = some ⟨g, 0, none⟩ ∧ B ≤ g := by
        rcases hO.2 with ⟨_, e⟩ | ⟨g, cap, cur, hv, h1, rest⟩
        · omega
        · simp at hv; exact ⟨g, hv.1, h1⟩
      have hO' : w1.ownsRow B 9 1 (.slice (some ⟨g, 0, none⟩) xs.length c) xs.length (stv (mixS k j xs)) := by
        have := hO; rw [OwnS, hlen] at this; exact this
      have hcell := hO'.cellAt j (by omega)
      rw [stv_get (by omega)] at hcell
      have hfz := hO'.frozenAt j
      have hset : Hid (OwnS (w1.setCell ⟨g, j, none⟩ (.string (mtx (k + j)))) B (.slice (some ⟨g, 0, none⟩) xs.length c) (mixS k (j + 1) xs)) := by
        have := (hO'.stored j (.string (mtx (k + j)))).1
        rw [mixS_succ k j xs hlt] at this
        show World.ownsRow _ _ _ _ _ _ _
        rw [mixS_length k (j + 1) xs hlt]
        exact this
      have hb' := hbb.setCell (p := ⟨g, j, none⟩) hgB (.string (mtx (k + j)))
      obtain ⟨z, hz⟩ : ∃ z, (mixS k j xs)[j]?.getD ByteArray.empty = z := ⟨_, rfl⟩
      rw [hz] at hcell
      clear hz hO hO' hlen HO
      generalize mtx (k + j) = t at *
      go_wp2_with fail
      go_roundw
      case rel => exact ⟨j + 1, by omega, by go_num, by go_num, hb', hset⟩
      case measure => simp [intOf] <;> omega
    · have hj' : j = xs.length := by omega
      subst hj'
      rw [mixS_all] at HO
      go_wp2_with fail
      go_ret
      exact ⟨rfl, hb, HO.out⟩

set_option maxRecDepth 100000 in
set_option maxHeartbeats 2000000 in
theorem heldS_any (B : Nat) (v : Value) (k n : Nat) (hk1 : 1 ≤ k) (hk : k + n ≤ 9) (w : World) (h : OwnS w B v (marksS k n)) :
    Calls Try.prog 21 #[v, .int .i64 (k : Int)] w (Ret (.int .i64 ((k + n : Nat) : Int)) w) := by
  obtain ⟨a, c, rfl, hI⟩ := h.form
  rw [marksS_length]
  have HI := Lib.hid hI
  clear h hI
  have hmx : Try.prog.follows .mixedOrders = true := by kernel_rfl
  have HMX := Lib.hid hmx
  clear hmx
  go_enter Try.func21, Try.ntmps21
  go_wp2_with fail
  go_loopw [1, 5] (fun u i wr => ∃ j : Nat, j ≤ n ∧ i = .int .i64 j ∧ u = .int .i64 ((k + j : Nat) : Int) ∧ Below w.heap.size w wr) (fun _ i _ => n - (intOf i).toNat)
  case atStart => exact ⟨0, Nat.zero_le _, rfl, rfl, Below.refl _ _⟩
  case round =>
    obtain ⟨j, hj, rfl, rfl, hb⟩ := hrel
    by_cases hlt : j < n
    · obtain ⟨g, off, rfl, hc⟩ := HI.out j (by rw [marksS_length]; exact hlt)
      have HC : Hid (∀ W, Below w.heap.size w W → W.cell? ⟨g, off + j, none⟩ = some (.string (mtx (k + j)))) := fun W hW => by
        rw [hW.cell (p := ⟨g, off + j, none⟩) (World.block_lt_of_cell? w _ hc), hc, marksS_get hlt]
      rw [← hb.cell (p := ⟨g, off + j, none⟩) (World.block_lt_of_cell? w _ hc), marksS_get hlt] at hc
      have i1 : (0 : Int) ≤ (j : Int) := by omega
      have i2 : (j : Int) < (n : Int) := by omega
      have i3 : k + j ≤ 9 := by omega
      have HMT : Hid (∀ W, Calls Try.prog 60 #[.int .i64 ((k + j : Nat) : Int)] W (Ret (.string (mtx (k + j))) W)) := markText_any (k + j) (by omega) i3
      generalize mtx (k + j) = t at *
      go_wp2_with fail
      refine region_S (fun W => W.cell? ⟨g, off + j, none⟩ = some (.string t)) [] 7 rfl HMX.out hc (fun hU => ?_)
      obtain ⟨W, hW⟩ : ∃ W, W = wr.drew := ⟨_, rfl⟩
      have hB : Below w.heap.size w W := by rw [hW]; exact hb.drew
      rw [← hW] at hU ⊢
      clear hW
      (refine AnyS.take (i := 0) rfl (by kernel_rfl) (by kernel_rfl) (by kernel_rfl) (by rfl) (fun _ _ _ h => h) (by rfl) (by intro w; go_simp; with_reducible rfl) hU (fun hU => ?_); (try simp only [Act.put, List.setIfInBounds_toArray, List.set_cons_zero, List.set_cons_succ]); refine AnyS.take (i := 1) rfl (by kernel_rfl) (by kernel_rfl) (by kernel_rfl) (by rfl) (fun _ _ _ h => h) (by rfl) (by intro w; go_simp; with_reducible rfl) hU (fun hU => ?_); (try simp only [Act.put, List.setIfInBounds_toArray, List.set_cons_zero, List.set_cons_succ]); refine AnyS.take (i := 2) rfl (by kernel_rfl) (by kernel_rfl) (by kernel_rfl) (by rfl) (fun _ _ _ h => h) (by rfl) (by intro w; go_simp; with_reducible rfl) hU (fun hU => ?_); (try simp only [Act.put, List.setIfInBounds_toArray, List.set_cons_zero, List.set_cons_succ]); refine AnyS.take (i := 4) rfl (by kernel_rfl) (by kernel_rfl) (by kernel_rfl) (by rfl) (fun _ _ _ h => h) (by rfl) (by intro w; go_simp; with_reducible rfl) hU (fun hU => ?_); (try simp only [Act.put, List.setIfInBounds_toArray, List.set_cons_zero, List.set_cons_succ]))
      (refine AnyS.takeS (i := 3) rfl (by kernel_rfl) (by kernel_rfl) (by kernel_rfl) (by rfl) (by kernel_rfl) (by kernel_rfl) (fun _ _ _ h => h) (by rfl) (by intro W hSw; have h1 := hSw; clear hSw; go_simp; with_reducible rfl) hU (fun hU => ?_); (try simp only [Act.put, List.setIfInBounds_toArray, List.set_cons_zero, List.set_cons_succ]))
      refine AnyS.branch (rs := [5]) (by kernel_rfl) (by simp) (AllS.cons rfl (fun K hK => ?_) AllS.nil)
      have hc' := HC.out W hB
      go_simp
      refine (HMT.out _).mono ?_
      rintro e w1 ⟨rfl, hb1⟩
      refine Shut.abs hK (fun V => Below w.heap.size w V ∧ V.cell? ⟨g, off + j, none⟩ = some (.string t)) ⟨hB.trans (hb1.mono hB.size), (hb1.cell (p := ⟨g, off + j, none⟩) (World.block_lt_of_cell? W _ hc')).trans hc'⟩ (fun V h => h.2) ?_
      clear hK K hB hU hb1 hc'
      rintro V ⟨hB, hc'⟩ hU
      (refine AnyS.take (i := 6) rfl (by kernel_rfl) (by kernel_rfl) (by kernel_rfl) (by rfl) (fun _ _ _ h => h) (by rfl) (by intro w; go_simp; with_reducible rfl) hU (fun hU => ?_); (try simp only [Act.put, List.setIfInBounds_toArray, List.set_cons_zero, List.set_cons_succ]))
      refine AnyS.done (by kernel_rfl) ?_ _
      go_wp2_with fail
      go_roundw
      case rel => exact ⟨j + 1, by omega, by go_num, by go_num, hB⟩
      case measure => simp [intOf] <;> omega
    · have hj' : j = n := by omega
      subst hj'
      go_wp2_with fail
      go_ret
      exact ⟨rfl, hb⟩
end Go.Proofs.Ytmacnofkpdikiaa
