/- Powers, words of a level, their numbers: contracts of both sides. -/
import Derived.Test.YtmacnofkpdikiaaN2
import Derived.Test.YtmacnofkpdikiaaX1
import Derived.Test.YtmacnofkpdikiaaMB
import Derived.Test.YtmacnofkpdikiaaM
import Derived.Deep.RegionWith
namespace Go.Proofs.Ytmacnofkpdikiaa
open Go.RowKit
set_option linter.unusedVariables false
set_option linter.unusedSimpArgs false

theorem pow30 {d k : Nat} (hd : d ≤ 3) (hk : k ≤ 30) : d ^ k ≤ 205891132094649 :=
  calc d ^ k ≤ 3 ^ k := Nat.pow_le_pow_left hd k
    _ ≤ 3 ^ 30 := Nat.pow_le_pow_right (by omega) hk
    _ = 205891132094649 := by decide
theorem pow_cast (d k : Nat) : ((d ^ k : Nat) : Int) * (d : Int) = ((d ^ (k + 1) : Nat) : Int) := by rw [Nat.pow_succ]; push_cast; rfl

set_option maxHeartbeats 1000000 in
theorem power_any (d n : Nat) (hd : d ≤ 3) (hn : n ≤ 29) (w : World) :
    Calls Try.prog 132 #[.int .i64 d, .int .i64 n] w fun e w' => e = .returned (.int .i64 ((d ^ n : Nat) : Int)) ∧ w = w' := by
  go_enter Try.func132, Try.ntmps132
  go_wp2
  go_loop [5, 7] (fun p i => ∃ k : Nat, k ≤ n ∧ i = .int .i64 k ∧ p = .int .i64 ((d ^ k : Nat) : Int)) (fun _ i => n - (intOf i).toNat)
  case atStart => exact ⟨0, Nat.zero_le _, rfl, rfl⟩
  case round =>
    obtain ⟨k, hk, rfl, rfl⟩ := hrel
    by_cases hlt : k < n
    · have h1 := pow30 (k := k + 1) hd (by omega)
      have h2 := pow_cast d k
      have i1 : 0 ≤ ((d ^ k : Nat) : Int) * (d : Int) := by rw [h2]; omega
      have i2 : ((d ^ k : Nat) : Int) * (d : Int) ≤ 205891132094649 := by rw [h2]; omega
      have H2 := Lib.hid h2
      clear h1 h2
      generalize ((d ^ k : Nat) : Int) = P at *
      go_wp2
      go_round
      case rel => exact ⟨k + 1, by omega, by go_num, by rw [← H2.out]⟩
      case measure => simp [intOf]; omega
    · have hk' : k = n := by omega
      subst hk'
      go_wp2
      go_ret
      exact ⟨rfl, rfl⟩

set_option maxHeartbeats 1000000 in
theorem l01Power_any (d n : Nat) (hd : d ≤ 3) (hn : n ≤ 29) (w : World) :
    Calls Try.prog 82 #[.int .i64 d, .int .i64 n] w fun e w' => e = .returned (.int .i64 ((d ^ n : Nat) : Int)) ∧ w = w' := by
  go_enter Try.func82, Try.ntmps82
  go_wp2
  go_loop [1, 5] (fun i p => ∃ k : Nat, k ≤ n ∧ i = .int .i64 ((n - k : Nat) : Int) ∧ p = .int .i64 ((d ^ k : Nat) : Int)) (fun i _ => (intOf i).toNat)
  case atStart => exact ⟨0, Nat.zero_le _, rfl, rfl⟩
  case round =>
    obtain ⟨k, hk, rfl, rfl⟩ := hrel
    by_cases hlt : k < n
    · have h1 := pow30 (k := k + 1) hd (by omega)
      have h2 := pow_cast d k
      have i1 : 0 ≤ ((d ^ k : Nat) : Int) * (d : Int) := by rw [h2]; omega
      have i2 : ((d ^ k : Nat) : Int) * (d : Int) ≤ 205891132094649 := by rw [h2]; omega
      have H2 := Lib.hid h2
      clear h1 h2
      generalize ((d ^ k : Nat) : Int) = P at *
      obtain ⟨r, hr⟩ : ∃ r, r = n - k := ⟨_, rfl⟩
      rw [← hr]
      have i3 : (0 : Int) < (r : Int) := by omega
      have i4 : (r : Int) ≤ 29 := by omega
      have HR := Lib.hid hr
      clear hr
      go_wp2
      go_round
      case rel => exact ⟨k + 1, by omega, by have := HR.out; rw [show ((n - (k + 1) : Nat) : Int) = (r : Int) - 1 by omega], by rw [← H2.out]⟩
      case measure => simp [intOf]; omega
    · have hk' : k = n := by omega
      subst hk'
      simp only [Nat.sub_self]
      go_wp2
      go_ret
      exact ⟨rfl, rfl⟩

/-! words -/
def lowZ (d n j k : Nat) : List Int := List.replicate (n - j) 0 ++ (digs d j k).map fun x : Nat => ((48 + x : Nat) : Int)
theorem lowZ_length (d n j k : Nat) (h : j ≤ n) : (lowZ d n j k).length = n := by simp [lowZ, digs_length]; omega
theorem lowZ_step (d n j k : Nat) (h : j < n) : (u8s (lowZ d n j k)).set (n - 1 - j) (.int .u8 ((48 + k / d ^ j % d : Nat) : Int)) = u8s (lowZ d n (j + 1) k) := by
  simp only [lowZ, u8s, List.map_append, digs, List.map_cons]
  rw [show n - j = (n - (j + 1)) + 1 by omega, List.replicate_succ', List.map_append, List.append_assoc]
  rw [List.set_append_right _ _ (by simp; omega)]
  congr 1
  simp only [List.length_map, List.length_replicate, List.map_cons, List.map_nil, List.cons_append, List.nil_append]
  rw [show n - 1 - j - (n - (j + 1)) = 0 by omega, List.set_cons_zero]
theorem lowZ_all (d n k : Nat) : strOfNums (lowZ d n n k) = txt (digs d n k) := by simp [lowZ, txt]

theorem divC (a b : Nat) : ((a : Int) / (b : Int)) = ((a / b : Nat) : Int) := by simp
theorem modC (a b : Nat) : ((a : Int) % (b : Int)) = ((a % b : Nat) : Int) := by simp

set_option maxRecDepth 100000 in
set_option maxHeartbeats 1000000 in
theorem wordOf_any (d n k : Nat) (h2 : 2 ≤ d) (h3 : d ≤ 3) (hn : n ≤ 40) (hk : k ≤ 1000000) (w : World) :
    Calls Try.prog 133 #[.int .i64 d, .int .i64 n, .int .i64 k] w (Ret (.string (txt (digs d n k))) w) := by
  have hmk := mk_u8 n (by omega) w
  have hM0 := (Mm.start w).alloc (madeCells #[Value.int .u8 0] n) 5
  rw [made_u8, show List.replicate n (0 : Int) = lowZ d n 0 k by simp [lowZ, digs]] at hM0
  go_enter Try.func133, Try.ntmps133
  go_wp2
  clear hmk
  go_loopw [2, 8] (fun kv i wr => ∃ j : Nat, j ≤ n ∧ i = .int .i64 ((n : Int) - 1 - (j : Int)) ∧ kv = .int .i64 ((k / d ^ j : Nat) : Int) ∧ Mm w.heap.size w wr [(w.heap.size, u8s (lowZ d n j k), 5)] []) (fun _ i _ => (intOf i + 1).toNat)
  case atStart => exact ⟨0, Nat.zero_le _, by simp, by simp, hM0⟩
  case round =>
    clear hM0
    obtain ⟨j, hj, rfl, rfl, hM⟩ := hrel
    by_cases hlt : j < n
    · have hB := hM.at 0 rfl
      obtain ⟨u, hu⟩ : ∃ u, (lowZ d n j k)[n - 1 - j]?.getD 0 = u := ⟨_, rfl⟩
      have c1 := hB.cell' (u8s_get (xs := lowZ d n j k) (i := n - 1 - j) (by rw [lowZ_length d n j k hj]; omega))
      have f1 := hB.free (n - 1 - j)
      rw [hu] at c1
      have hset := Lib.hid (hM.setCell 0 rfl (n - 1 - j) (.int .u8 ((48 + k / d ^ j % d : Nat) : Int)))
      rw [lowZ_step d n j k hlt] at hset
      have HN : Hid (k / d ^ (j + 1) = k / d ^ j / d) := by show _ = _; rw [Nat.pow_succ, Nat.div_div_eq_div_mul]
      have hkd : k / d ^ j ≤ 1000000 := Nat.le_trans (Nat.div_le_self _ _) hk
      have HMD : Hid (((k / d ^ j : Nat) : Int) % (d : Int) = ((k / d ^ j % d : Nat) : Int)) := modC _ _
      have HDV : Hid (((k / d ^ j : Nat) : Int) / (d : Int) = ((k / d ^ j / d : Nat) : Int)) := divC _ _
      have hml : k / d ^ j % d < 3 := by have := Nat.mod_lt (k / d ^ j) (by omega : d > 0); omega
      clear hM hB hu
      obtain ⟨i, hi⟩ : ∃ i : Nat, i = n - 1 - j := ⟨_, rfl⟩
      rw [← hi] at c1 f1 hset
      rw [show (n : Int) - 1 - (j : Int) = (i : Int) by omega]
      have HI := Lib.hid hi
      clear hi
      generalize k / d ^ j = K at *
      have i1 : (0 : Int) ≤ (i : Int) := by omega
      have i2 : (i : Int) < (n : Int) := by have := HI.out; omega
      have i3 : (0 : Int) < (d : Int) := by omega
      have i4 : (0 : Int) ≤ (K : Int) := by omega
      have i5 : (K : Int) ≤ 1000000 := by omega
      have i6 : (0 : Int) ≤ (K : Int) / (d : Int) := Int.ediv_nonneg i4 (by omega)
      have i7 : (K : Int) / (d : Int) ≤ 1000000 := Int.le_trans (Int.ediv_le_self _ i4) i5
      go_wp2_with fail
      rw [HMD.out]
      go_wp2_with (go_at_call 98; refine (letter_any _ (by omega) (by omega) _).mono ?_; rintro e w' ⟨rfl, rfl⟩)
      go_roundw
      case rel => exact ⟨j + 1, by omega, by have := HI.out; rw [show (n : Int) - 1 - ((j + 1 : Nat) : Int) = (i : Int) - 1 by omega], by rw [HN.out, HDV.out], hset.out⟩
      case measure => simp [intOf] <;> omega
    · have hj' : j = n := by omega
      subst hj'
      rw [show (j : Int) - 1 - (j : Int) = -1 by omega]
      have hB := hM.at 0 rfl
      have hl := lowZ_length d j j k (Nat.le_refl _)
      have hcv := run_convert_bytes_arg wr 82 5 Try.underlying82 Try.underlying5 w.heap.size 0 j j (lowZ d j j k) hl (fun i hi => by
        rw [Nat.zero_add]; exact hB.cell' (u8s_get (by rw [hl]; exact hi))) 9 Try.underlying9
      rw [lowZ_all] at hcv
      have hbl := hM.below
      clear hM hB hl
      go_wp2_with fail
      go_ret
      exact ⟨rfl, hbl⟩

theorem ret_str {a b : ByteArray} (h : a = b) : Ending.returned (.string a) = .returned (.string b) := by rw [h]
theorem txt_snoc (l : List Nat) (x : Nat) : txt (l ++ [x]) = txt l ++ strOfNums [48 + (x : Int)] := by
  have : (txt (l ++ [x])).data.toList = (txt l ++ strOfNums [48 + (x : Int)]).data.toList := by
    rw [ByteArray.data_append]
    simp only [Array.toList_append, txt_data, strOfNums_data, List.map_append, List.map_cons, List.map_nil]
    congr 2
  exact ByteArray.ext (Array.toList_inj.1 this)

set_option maxRecDepth 100000 in
set_option maxHeartbeats 1000000 in
theorem l01WordOf_any (d : Nat) (h2 : 2 ≤ d) (h3 : d ≤ 3) : ∀ (n k : Nat) (hn : n ≤ 40) (hk : k ≤ 1000000) (w : World),
    Calls Try.prog 83 #[.int .i64 d, .int .i64 n, .int .i64 k] w (Ret (.string (txt (digs d n k))) w)
  | 0, k, hn, hk, w => by
    go_enter Try.func83, Try.ntmps83
    go_wp2
    go_ret
    exact ⟨rfl, Below.refl _ _⟩
  | n + 1, k, hn, hk, w => by
    have ih := fun W => l01WordOf_any d h2 h3 n (k / d) (by omega) (Nat.le_trans (Nat.div_le_self _ _) hk) W
    have hne : (((n + 1 : Nat) : Int) == 0) = false := by simp; omega
    have i3 : (0 : Int) < (d : Int) := by omega
    have i4 : (0 : Int) ≤ (k : Int) := by omega
    have i5 : (k : Int) ≤ 1000000 := by omega
    have i8 : (n : Int) ≤ 40 := by omega
    have IH := Lib.hid ih
    clear ih
    go_enter Try.func83, Try.ntmps83
    go_wp2_with fail
    have hmx : Try.prog.follows .mixedOrders = true := by kernel_rfl
    have HMX := Lib.hid hmx
    clear hmx
    have hml : k % d < 3 := by have := Nat.mod_lt k (by omega : d > 0); omega
    have hdl : k / d ≤ 1000000 := Nat.le_trans (Nat.div_le_self _ _) hk
    have q0 : IntKind.i64.wrap (n : Int) = (n : Int) := IntWalk.i64_in _ (by omega)
    have q1 : Int.tdiv (k : Int) (d : Int) = ((k / d : Nat) : Int) := by simp [Int.tdiv]
    have q2 : Int.tmod (k : Int) (d : Int) = ((k % d : Nat) : Int) := by simp [Int.tmod]
    have HD : Hid (digs d (n + 1) k = digs d n (k / d) ++ [k % d]) := digs_snoc d n k
    generalize k / d = K at *
    generalize k % d = x at *
    have q3 : IntKind.i64.wrap (K : Int) = (K : Int) := IntWalk.i64_in _ (by omega)
    have q4 : IntKind.i64.wrap (48 + (x : Int)) = 48 + (x : Int) := IntWalk.i64_in _ (by omega)
    have q5 : IntKind.u8.wrap (48 + (x : Int)) = 48 + (x : Int) := by simp [IntKind.wrap, IntKind.bits, IntKind.signed]; omega
    have q6 : ¬ d = 0 := by omega
    have q7 : IntKind.i64.wrap (x : Int) = (x : Int) := IntWalk.i64_in _ (by omega)
    refine region_S (fun W => True) [] 16 rfl HMX.out trivial (fun hU => ?_)
    (refine AnyS.take (i := 0) rfl (by kernel_rfl) (by kernel_rfl) (by kernel_rfl) (by rfl) (fun _ _ _ h => h) (by rfl) (by intro w; go_simp; with_reducible rfl) hU (fun hU => ?_); (try simp only [Act.put, List.setIfInBounds_toArray, List.set_cons_zero, List.set_cons_succ]); refine AnyS.take (i := 1) rfl (by kernel_rfl) (by kernel_rfl) (by kernel_rfl) (by rfl) (fun _ _ _ h => h) (by rfl) (by intro w; go_simp; with_reducible rfl) hU (fun hU => ?_); (try simp only [Act.put, List.setIfInBounds_toArray, List.set_cons_zero, List.set_cons_succ]); refine AnyS.take (i := 2) rfl (by kernel_rfl) (by kernel_rfl) (by kernel_rfl) (by rfl) (fun _ _ _ h => h) (by rfl) (by intro w; go_simp; with_reducible rfl) hU (fun hU => ?_); (try simp only [Act.put, List.setIfInBounds_toArray, List.set_cons_zero, List.set_cons_succ]); refine AnyS.take (i := 3) rfl (by kernel_rfl) (by kernel_rfl) (by kernel_rfl) (by rfl) (fun _ _ _ h => h) (by rfl) (by intro w; go_simp; with_reducible rfl) hU (fun hU => ?_); (try simp only [Act.put, List.setIfInBounds_toArray, List.set_cons_zero, List.set_cons_succ]); refine AnyS.take (i := 4) rfl (by kernel_rfl) (by kernel_rfl) (by kernel_rfl) (by rfl) (fun _ _ _ h => h) (by rfl) (by intro w; go_simp; with_reducible rfl) hU (fun hU => ?_); (try simp only [Act.put, List.setIfInBounds_toArray, List.set_cons_zero, List.set_cons_succ]); refine AnyS.take (i := 5) rfl (by kernel_rfl) (by kernel_rfl) (by kernel_rfl) (by rfl) (fun _ _ _ h => h) (by rfl) (by intro w; go_simp; with_reducible rfl) hU (fun hU => ?_); (try simp only [Act.put, List.setIfInBounds_toArray, List.set_cons_zero, List.set_cons_succ]); refine AnyS.take (i := 7) rfl (by kernel_rfl) (by kernel_rfl) (by kernel_rfl) (by rfl) (fun _ _ _ h => h) (by rfl) (by intro w; go_simp; with_reducible rfl) hU (fun hU => ?_); (try simp only [Act.put, List.setIfInBounds_toArray, List.set_cons_zero, List.set_cons_succ]); refine AnyS.take (i := 8) rfl (by kernel_rfl) (by kernel_rfl) (by kernel_rfl) (by rfl) (fun _ _ _ h => h) (by rfl) (by intro w; go_simp; with_reducible rfl) hU (fun hU => ?_); (try simp only [Act.put, List.setIfInBounds_toArray, List.set_cons_zero, List.set_cons_succ]); refine AnyS.take (i := 9) rfl (by kernel_rfl) (by kernel_rfl) (by kernel_rfl) (by rfl) (fun _ _ _ h => h) (by rfl) (by intro w; go_simp; with_reducible rfl) hU (fun hU => ?_); (try simp only [Act.put, List.setIfInBounds_toArray, List.set_cons_zero, List.set_cons_succ]); refine AnyS.take (i := 10) rfl (by kernel_rfl) (by kernel_rfl) (by kernel_rfl) (by rfl) (fun _ _ _ h => h) (by rfl) (by intro w; go_simp; with_reducible rfl) hU (fun hU => ?_); (try simp only [Act.put, List.setIfInBounds_toArray, List.set_cons_zero, List.set_cons_succ]); refine AnyS.take (i := 11) rfl (by kernel_rfl) (by kernel_rfl) (by kernel_rfl) (by rfl) (fun _ _ _ h => h) (by rfl) (by intro w; go_simp; with_reducible rfl) hU (fun hU => ?_); (try simp only [Act.put, List.setIfInBounds_toArray, List.set_cons_zero, List.set_cons_succ]))
    obtain ⟨W, hW⟩ : ∃ W, W = w.drew := ⟨_, rfl⟩
    have hB : Below w.heap.size w W := by rw [hW]; exact (Below.refl _ w).drew
    rw [← hW] at hU ⊢
    clear hW q0 q1 q2 q3 q4 q5 q7
    have q8 : ¬ 9223372036854775807 < (txt (digs d n K)).size + (strOfNums [48 + (x : Int)]).size := by rw [txt_size, strOfNums_size, digs_length]; simp; omega
    refine AnyS.branch (rs := [6, 12]) (by kernel_rfl) (by simp) (AllS.cons rfl (fun K hK => ?_) (AllS.cons rfl (fun K hK => ?_) AllS.nil))
    · go_simp
      refine (IH.out _).mono ?_
      rintro e w1 ⟨rfl, hb1⟩
      refine Shut.abs hK (fun W => Below w.heap.size w W) (hB.trans (hb1.mono hB.size)) (fun _ _ => trivial) ?_
      clear hK K hB hU hb1
      rintro W hB hU
      refine AnyS.branch (rs := [12]) (by kernel_rfl) (by simp) (AllS.cons rfl (fun K hK => ?_) AllS.nil)
      go_simp
      obtain ⟨b, eb⟩ : ∃ b, b = W.heap.size := ⟨_, rfl⟩
      rw [← eb]
      refine Shut.abs hK (fun V => Below w.heap.size w V ∧ Blk V b [.int .u8 (48 + (x : Int))] 5) ⟨hB.alloc hB.size _, by rw [eb]; exact Blk.new W #[.int .u8 (48 + (x : Int))] 5⟩ (fun _ _ => trivial) ?_
      clear hK K hB hU eb
      rintro V ⟨hB, hk⟩ hU
      refine AnyS.branch (rs := [13]) (by kernel_rfl) (by simp) (AllS.cons rfl (fun K hK => ?_) AllS.nil)
      have hcv := run_convert_bytes_arg V 82 5 Try.underlying82 Try.underlying5 b 0 1 1 [48 + (x : Int)] rfl (fun i hi => by obtain rfl : i = 0 := (by simpa using hi); exact hk.cell' rfl) 9 Try.underlying9
      go_simp
      refine hK.out _ _ (.inl trivial) (fun hU => ?_)
      clear hK K hcv hk
      (refine AnyS.take (i := 14) rfl (by kernel_rfl) (by kernel_rfl) (by kernel_rfl) (by rfl) (fun _ _ _ h => h) (by rfl) (by intro w; go_simp; with_reducible rfl) hU (fun hU => ?_); (try simp only [Act.put, List.setIfInBounds_toArray, List.set_cons_zero, List.set_cons_succ]); refine AnyS.take (i := 15) rfl (by kernel_rfl) (by kernel_rfl) (by kernel_rfl) (by rfl) (fun _ _ _ h => h) (by rfl) (by intro w; go_simp; with_reducible rfl) hU (fun hU => ?_); (try simp only [Act.put, List.setIfInBounds_toArray, List.set_cons_zero, List.set_cons_succ]))
      refine AnyS.done (by kernel_rfl) ?_ _
      go_wp2_with fail
      go_ret
      exact ⟨ret_str (by rw [HD.out, txt_snoc]), hB⟩
    · go_simp
      obtain ⟨b, eb⟩ : ∃ b, b = W.heap.size := ⟨_, rfl⟩
      rw [← eb]
      refine Shut.abs hK (fun V => Below w.heap.size w V ∧ Blk V b [.int .u8 (48 + (x : Int))] 5) ⟨hB.alloc hB.size _, by rw [eb]; exact Blk.new W #[.int .u8 (48 + (x : Int))] 5⟩ (fun _ _ => trivial) ?_
      clear hK K hB hU eb
      rintro V ⟨hB, hk⟩ hU
      refine AnyS.branch (rs := [6, 13]) (by kernel_rfl) (by simp) (AllS.cons rfl (fun K hK => ?_) (AllS.cons rfl (fun K hK => ?_) AllS.nil))
      · go_simp
        refine (IH.out _).mono ?_
        rintro e w1 ⟨rfl, hb1⟩
        refine Shut.abs hK (fun V => Below w.heap.size w V ∧ Blk V b [.int .u8 (48 + (x : Int))] 5) ⟨hB.trans (hb1.mono hB.size), hk.keep hb1⟩ (fun _ _ => trivial) ?_
        clear hK K hB hU hb1 hk
        rintro V ⟨hB, hk⟩ hU
        refine AnyS.branch (rs := [13]) (by kernel_rfl) (by simp) (AllS.cons rfl (fun K hK => ?_) AllS.nil)
        have hcv := run_convert_bytes_arg V 82 5 Try.underlying82 Try.underlying5 b 0 1 1 [48 + (x : Int)] rfl (fun i hi => by obtain rfl : i = 0 := (by simpa using hi); exact hk.cell' rfl) 9 Try.underlying9
        go_simp
        refine hK.out _ _ (.inl trivial) (fun hU => ?_)
        clear hK K hcv hk
        (refine AnyS.take (i := 14) rfl (by kernel_rfl) (by kernel_rfl) (by kernel_rfl) (by rfl) (fun _ _ _ h => h) (by rfl) (by intro w; go_simp; with_reducible rfl) hU (fun hU => ?_); (try simp only [Act.put, List.setIfInBounds_toArray, List.set_cons_zero, List.set_cons_succ]); refine AnyS.take (i := 15) rfl (by kernel_rfl) (by kernel_rfl) (by kernel_rfl) (by rfl) (fun _ _ _ h => h) (by rfl) (by intro w; go_simp; with_reducible rfl) hU (fun hU => ?_); (try simp only [Act.put, List.setIfInBounds_toArray, List.set_cons_zero, List.set_cons_succ]))
        refine AnyS.done (by kernel_rfl) ?_ _
        go_wp2_with fail
        go_ret
        exact ⟨ret_str (by rw [HD.out, txt_snoc]), hB⟩
      · have hcv := run_convert_bytes_arg V 82 5 Try.underlying82 Try.underlying5 b 0 1 1 [48 + (x : Int)] rfl (fun i hi => by obtain rfl : i = 0 := (by simpa using hi); exact hk.cell' rfl) 9 Try.underlying9
        go_simp
        refine hK.out _ _ (.inl trivial) (fun hU => ?_)
        clear hK K hcv hk
        refine AnyS.branch (rs := [6]) (by kernel_rfl) (by simp) (AllS.cons rfl (fun K hK => ?_) AllS.nil)
        go_simp
        refine (IH.out _).mono ?_
        rintro e w1 ⟨rfl, hb1⟩
        refine Shut.abs hK (fun V => Below w.heap.size w V) (hB.trans (hb1.mono hB.size)) (fun _ _ => trivial) ?_
        clear hK K hB hU hb1
        rintro V hB hU
        (refine AnyS.take (i := 14) rfl (by kernel_rfl) (by kernel_rfl) (by kernel_rfl) (by rfl) (fun _ _ _ h => h) (by rfl) (by intro w; go_simp; with_reducible rfl) hU (fun hU => ?_); (try simp only [Act.put, List.setIfInBounds_toArray, List.set_cons_zero, List.set_cons_succ]); refine AnyS.take (i := 15) rfl (by kernel_rfl) (by kernel_rfl) (by kernel_rfl) (by rfl) (fun _ _ _ h => h) (by rfl) (by intro w; go_simp; with_reducible rfl) hU (fun hU => ?_); (try simp only [Act.put, List.setIfInBounds_toArray, List.set_cons_zero, List.set_cons_succ]))
        refine AnyS.done (by kernel_rfl) ?_ _
        go_wp2_with fail
        go_ret
        exact ⟨ret_str (by rw [HD.out, txt_snoc]), hB⟩
end Go.Proofs.Ytmacnofkpdikiaa
