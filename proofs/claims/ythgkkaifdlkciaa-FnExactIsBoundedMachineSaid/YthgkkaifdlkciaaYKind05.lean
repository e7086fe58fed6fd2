import Derived.Test.YthgkkaifdlkciaaYKind02
import Derived.Test.YthgkkaifdlkciaaYKind01
import Derived.Test.YthgkkaifdlkciaaYKind04
import Derived.Test.YthgkkaifdlkciaaYKind03
/- The reference's trivial states. -/
namespace Go.Proofs.Ythgkkaifdlkciaa
open Go.RowKit
set_option linter.unusedVariables false
set_option linter.unusedSimpArgs false

/-- sixteen bools -/
def bls (tv : Nat → Bool) : List Value := (List.range 16).map fun q => .bool (tv q)
theorem bls_get (tv : Nat → Bool) {q : Nat} (h : q < 16) : (bls tv)[q]? = some (.bool (tv q)) := by simp [bls, h]
theorem bls_set (tv : Nat → Bool) {j : Nat} (b : Bool) (h : j < 16) : (bls tv).set j (.bool b) = bls (upd tv j b) := by
  apply List.ext_getElem?
  intro i
  by_cases hi : i < 16
  · rw [bls_get _ hi]
    by_cases e : i = j
    · subst e; rw [List.getElem?_set_self (by simpa [bls] using h)]; simp [upd]
    · rw [List.getElem?_set_ne (by omega), bls_get _ hi]; simp [upd, e]
  · rw [List.getElem?_eq_none (by simp [bls]; omega), List.getElem?_eq_none (by simp [bls]; omega)]

/-- the memory of the reference's rounds -/
structure TW (w wr : World) (m : Mch) (tv : Nat → Bool) : Prop where
  mach : MAt wr w.heap.size 0 m
  res : Blk wr (w.heap.size + 1) (bls fun _ => false) 61
  out : Blk wr (w.heap.size + 1 + 1) (bls tv) 61
  below : Below w.heap.size w wr

theorem TW.l {w wr : World} {m : Mch} {tv : Nat → Bool} (h : TW w wr m tv) (hok : m.Ok) : wr.cell? ⟨w.heap.size, 0, none⟩ = some (.int .i64 (m.l : Int)) := by rw [← hok.L_eq]; exact h.mach.l
theorem TW.s {w wr : World} {m : Mch} {tv : Nat → Bool} (h : TW w wr m tv) (hok : m.Ok) : wr.cell? ⟨w.heap.size, 1, none⟩ = some (.int .i64 (m.s : Int)) := by rw [← hok.S_eq]; exact h.mach.s
theorem TW.get {w wr : World} {m : Mch} {tv : Nat → Bool} (h : TW w wr m tv) {q : Nat} (hq : q < 16) : wr.cell? ⟨w.heap.size + 1 + 1, q, none⟩ = some (.bool (tv q)) := h.out.cell' (bls_get tv hq)
theorem TW.set {w wr : World} {m : Mch} {tv : Nat → Bool} (h : TW w wr m tv) {j : Nat} (hj : j < 16) (b : Bool) : TW w (wr.setCell ⟨w.heap.size + 1 + 1, j, none⟩ (.bool b)) m (upd tv j b) :=
  ⟨h.mach.setCell (by simp only; omega) _, h.res.setOther (by simp only; omega) _, by rw [← bls_set tv b hj]; exact h.out.setCell _ _, h.below.setCell (by simp only; omega) _⟩

set_option maxRecDepth 100000 in
set_option maxHeartbeats 4000000 in
theorem l01Trivial_any (m : Mch) (hwf : m.Wf) (hok : m.Ok) (w : World) :
    Calls Try.prog 57 #[.agg m.cells.toArray] w (Ret (.agg (bls (trivB m)).toArray) w) := by
  have hm := MAt.boxed w m 28
  have hb0 := boxedBelow w m.cells.toArray 28
  have hs16 := hok.s_le
  have hl3 := hok.l_le
  go_enter Try.func57, Try.ntmps57
  go_wp2
  go_loopw [4] (fun i wr => ∃ k : Nat, k ≤ m.s ∧ i = .int .i64 k ∧ ∃ tv, TW w wr m tv ∧ Hid ((∀ q, q < k → tv q = true) ∧ ∀ q, k ≤ q → tv q = false)) (fun i _ => m.s - (intOf i).toNat)
  case atStart =>
    refine ⟨0, Nat.zero_le _, rfl, fun _ => false, ⟨(hm.alloc (by simp) _).alloc (by simp; omega) _, ?_, ?_, (hb0.alloc (by simp) _).alloc (by simp; omega) _⟩, fun q hq => by omega, fun _ _ => rfl⟩
    · have := (Blk.new (w.alloc (.cells m.cells.toArray 28)) (bls fun _ => false).toArray 61).alloc (.cells (bls fun _ => false).toArray 61)
      rw [show (w.alloc (.cells m.cells.toArray 28)).heap.size = w.heap.size + 1 by simp] at this
      exact this
    · have := Blk.new ((w.alloc (.cells m.cells.toArray 28)).alloc (.cells (bls fun _ => false).toArray 61)) (bls fun _ => false).toArray 61
      rw [show ((w.alloc (.cells m.cells.toArray 28)).alloc (.cells (bls fun _ => false).toArray 61)).heap.size = w.heap.size + 1 + 1 by simp] at this
      exact this
  case round =>
    obtain ⟨k, hk, rfl, tv, hT, hI⟩ := hrel
    have hcs := hT.s hok
    by_cases hlt : k < m.s
    · have hck := hT.get (q := k) (by omega)
      have hfk := hT.out.free k
      have i1 : (k : Int) < 16 := by omega
      have i2 : (0 : Int) ≤ (k : Int) := by omega
      go_wp2
      go_roundw
      case rel =>
        exact ⟨k + 1, by omega, by go_num, _, hT.set (by omega) true, fun q hq => by (simp only [upd]; split; rfl; exact hI.out.1 q (by omega)), fun q hq => by (simp only [upd]; rw [if_neg (by omega)]; exact hI.out.2 q (by omega))⟩
      case measure => simp [intOf]; omega
    · have hk' : k = m.s := by omega
      subst hk'
      have hinv : TInv m tv 0 := TInv.start hI.out.1 hI.out.2
      have HI := Lib.hid hinv
      clear hinv
      go_wp2
      obtain ⟨wo, rfl⟩ : ∃ wo : World, wo = wr := ⟨_, rfl⟩
      go_loopw [5] (fun i wr => ∃ r : Nat, r ≤ m.s + 1 ∧ i = .int .i64 r ∧ ∃ tv, TW w wr m tv ∧ Hid (TInv m tv r)) (fun i _ => m.s + 1 - (intOf i).toNat)
      case atStart => exact ⟨0, Nat.zero_le _, rfl, tv, hT, HI⟩
      case round =>
        clear hT HI hcs
        obtain ⟨r, hr, rfl, tv, hT, HI⟩ := hrel
        have hcs := hT.s hok
        by_cases hrlt : r ≤ m.s
        · go_wp2
          obtain ⟨wo, rfl⟩ : ∃ wo : World, wo = wr := ⟨_, rfl⟩
          go_loopw [6] (fun i wr => ∃ j : Nat, j ≤ m.s ∧ i = .int .i64 j ∧ ∃ tv, TW w wr m tv ∧ Hid (TInv2 m tv r j)) (fun i _ => m.s - (intOf i).toNat)
          case atStart => exact ⟨0, Nat.zero_le _, rfl, tv, hT, HI.out.begin⟩
          case round =>
            clear hT HI hcs
            obtain ⟨j, hj, rfl, tv, hT, HI⟩ := hrel
            have hcs := hT.s hok
            by_cases hjlt : j < m.s
            · go_wp2
              obtain ⟨wo, rfl⟩ : ∃ wo : World, wo = wr := ⟨_, rfl⟩
              go_loopw [7] (fun i wr => ∃ x : Nat, x ≤ m.l ∧ i = .int .i64 x ∧ ∃ tv, TW w wr m tv ∧ Hid (TInv3 m tv r j x)) (fun i _ => m.l - (intOf i).toNat)
              case atStart => exact ⟨0, Nat.zero_le _, rfl, tv, hT, HI.out.begin⟩
              case round =>
                clear hT HI hcs
                obtain ⟨x, hx, rfl, tv, hT, HI⟩ := hrel
                have hcl := hT.l hok
                by_cases hxlt : x < m.l
                · have hcj := hT.get (q := j) (by omega)
                  have hfj := hT.out.free j
                  have e3 := hT.mach.oo hwf (q := j) (x := x) (by omega) (by omega)
                  have e2 := hT.mach.nn hwf (q := j) (x := x) (by omega) (by omega)
                  rw [hok.o_eq hwf hjlt hxlt] at e3
                  rw [hok.n_eq hwf hjlt hxlt] at e2
                  have hz16 : m.nn j x < 16 := by have := hok.nn_lt hwf hjlt hxlt; omega
                  have hy3 : m.on j x < 3 := by have := hok.on_lt hwf hjlt hxlt; omega
                  have hcn := hT.get hz16
                  have HSTEP : Hid (∀ b, b = (tv j && (m.on j x == x) && tv (m.nn j x)) → TInv3 m (upd tv j b) r j (x + 1)) := fun b hb => HI.out.step hok hwf hjlt hxlt hb
                  have HSET : Hid (∀ b, TW w (wr.setCell ⟨w.heap.size + 1 + 1, j, none⟩ (.bool b)) m (upd tv j b)) := fun b => hT.set (by omega) b
                  have i1 : (j : Int) < 16 := by omega
                  have i2 : (0 : Int) ≤ (j : Int) := by omega
                  have i3 : (x : Int) < 3 := by omega
                  have i4 : (0 : Int) ≤ (x : Int) := by omega
                  generalize hY : m.on j x = y at *
                  generalize hZ : m.nn j x = z at *
                  have i5 : (z : Int) < 16 := by omega
                  clear hY hZ
                  cases h0 : tv j
                  · rw [h0] at hcj HSTEP
                    clear h0
                    go_wp2
                    go_roundw
                    case rel => exact ⟨x + 1, by omega, by go_num, _, HSET.out false, HSTEP.out false (by simp)⟩
                    case measure => simp [intOf]; omega
                  · rw [h0] at hcj HSTEP
                    clear h0
                    by_cases h1 : y = x
                    · subst h1
                      cases h2 : tv z
                      · rw [h2] at hcn HSTEP
                        clear h2
                        go_wp2
                        go_roundw
                        case rel => exact ⟨y + 1, by omega, by go_num, _, HSET.out false, HSTEP.out false (by simp)⟩
                        case measure => simp [intOf]; omega
                      · rw [h2] at hcn HSTEP
                        clear h2
                        go_wp2
                        go_roundw
                        case rel => exact ⟨y + 1, by omega, by go_num, _, HSET.out true, HSTEP.out true (by simp)⟩
                        case measure => simp [intOf]; omega
                    · have h1' : (y == x) = false := by simpa using h1
                      rw [h1'] at HSTEP
                      have h1i : ((y : Int) == (x : Int)) = false := by simp; omega
                      clear h1 h1'
                      go_wp2
                      go_roundw
                      case rel => exact ⟨x + 1, by omega, by go_num, _, HSET.out false, HSTEP.out false (by simp)⟩
                      case measure => simp [intOf]; omega
                · have hx' : x = m.l := by omega
                  have HF : Hid (TInv2 m tv r (j + 1)) := (hx' ▸ HI.out).fin
                  clear hx'
                  go_wp2
                  go_roundw
                  case rel => exact ⟨j + 1, by omega, by go_num, tv, hT, HF⟩
                  case measure => simp [intOf]; omega
            · have hj' : j = m.s := by omega
              have HF : Hid (TInv m tv (r + 1)) := (hj' ▸ HI.out).fin
              clear hj'
              go_wp2
              go_roundw
              case rel => exact ⟨r + 1, by omega, by go_num, tv, hT, HF⟩
              case measure => simp [intOf]; omega
        · have HF := Lib.hid (HI.out.fin hok hwf (by omega : m.s ≤ r))
          rw [HF.out] at hT
          have hall := hT.out.all
          have hth := hT.res.there 0 (bls (trivB m)).length (by simp [bls])
          have hi : (Try.prog.info? 61).map (·.size) = some (bls (trivB m)).length := by rw [show (bls (trivB m)).length = 16 by simp [bls]]; kernel_rfl
          have HI' := Lib.hid hi
          have H1 : Hid (∀ v ∈ bls (trivB m), v.oneCell' = true) := fun v hv => by simp only [bls, List.mem_map] at hv; obtain ⟨z, _, rfl⟩ := hv; rfl
          have hres := hT.res.setAll (vs := bls (trivB m)) (by simp [bls])
          have hbb := below_setCells (b := w.heap.size + 1) (by omega) (bls (trivB m)) hT.below 0
          clear hi
          go_wp2_with (first | ((with_reducible refine ld_row ?_ 61 (.tmp 3) ?_ (w.heap.size + 1 + 1) 0 ?_ (bls (trivB m)) (.array 16 4) hall Try.underlying61 ?_ HI'.out ?_); exact rfl; exact rfl; exact rfl; exact rfl) | ((with_reducible refine st_row ?_ 61 (.tmp 2) (.tmp 61) ?_ (w.heap.size + 1) 0 (bls (trivB m)) ?_ ?_ hth HI'.out H1.out ?_); exact rfl; exact rfl; exact rfl; exact rfl))
          exact bodyPost_ret (v := .agg (bls (trivB m)).toArray) (results_cell_row Try.results57 _ _ (w.heap.size + 1) 61 (bls (trivB m)).toArray (0, 0) (.array 16 4) rfl hres Try.underlying61 rfl (HI'.out.trans (by rw [List.size_toArray]))) rfl ⟨rfl, hbb⟩
end Go.Proofs.Ythgkkaifdlkciaa

/- ActiveAt and its reference. -/
namespace Go.Proofs.Ythgkkaifdlkciaa
open Go.RowKit
set_option linter.unusedVariables false
set_option linter.unusedSimpArgs false

theorem code_zero {m : Mch} {q : Int} {s : ByteArray} (h : codeP m q s = 0) : m.Ok ∧ letsP m.L s = true ∧ s.size ≤ 40 ∧ ∃ n : Nat, q = n ∧ n < m.s := by
  simp only [codeP] at h
  split at h
  · rename_i h1
    split at h
    · rename_i h2
      simp only [Bool.and_eq_true, wordP, decide_eq_true_eq] at h1
      have hok := mach_ok h1.1
      simp only [inR, Bool.and_eq_true, decide_eq_true_eq] at h2
      have := hok.S_eq
      exact ⟨hok, h1.2.1, h1.2.2, q.toNat, by omega, by omega⟩
    · omega
  · omega
theorem codeP_range (m : Mch) (q : Int) (s : ByteArray) : 0 ≤ codeP m q s ∧ codeP m q s ≤ 2 := by
  simp only [codeP]; split <;> (try split) <;> omega
end Go.Proofs.Ythgkkaifdlkciaa

/- The program's activities. -/
namespace Go.Proofs.Ythgkkaifdlkciaa
open Go.RowKit
set_option linter.unusedVariables false
set_option linter.unusedSimpArgs false

/-- n numbers -/
def nvs (n : Nat) (f : Nat → Nat) : List Value := (List.range n).map fun q => .int .i64 (f q : Int)
theorem nvs_get {n : Nat} (f : Nat → Nat) {q : Nat} (h : q < n) : (nvs n f)[q]? = some (.int .i64 (f q : Int)) := by simp [nvs, h]
theorem nvs_set {n : Nat} (f : Nat → Nat) {j : Nat} (v : Nat) (h : j < n) : (nvs n f).set j (.int .i64 (v : Int)) = nvs n (updN f j v) := by
  apply List.ext_getElem?
  intro i
  by_cases hi : i < n
  · rw [nvs_get _ hi]
    by_cases e : i = j
    · subst e; rw [List.getElem?_set_self (by simpa [nvs] using h)]; simp [updN]
    · rw [List.getElem?_set_ne (by omega), nvs_get _ hi]; simp [updN, e]
  · rw [List.getElem?_eq_none (by simp [nvs]; omega), List.getElem?_eq_none (by simp [nvs]; omega)]
/-- 'make([]int64, n)' -/
theorem mk_i64 (n : Nat) (hn : n ≤ 100000) (u : World) : (Instr.makeSlice 31 (.int .i64 (n : Int)) (.int .i64 (n : Int))).run Try.prog u =
    .ok (.slice (some ⟨u.heap.size, 0, none⟩) n n) (u.alloc (.cells (madeCells #[.int .i64 0] n) 2)) := by
  obtain ⟨i0, hi, hz0, hz1, hz2⟩ := info_parts Try.info2
  have h := run_make (P := Try.prog) u 31 2 i0 (.int .i64 0) Try.underlying31 hi hz0 .i64 .i64 (n : Int) (n : Int) (by omega) (Int.le_refl _) (by rw [hz2]; omega) (by omega)
  simpa [hz1, Value.cells] using h
theorem made_i64 (n : Nat) : (madeCells #[Value.int .i64 0] n).toList = nvs n fun _ => 0 := by
  simp only [madeCells, Array.toList_map, Array.toList_range, nvs]
  exact List.map_congr_left fun x _ => by simp [Nat.mod_one]
theorem acts_succ (m : Mch) (q k : Nat) : i64s (acts m q (k + 1)) = i64s (acts m q k) ++ [.int .i64 (sumR m (nowS m allB q k) m.s : Int)] := by simp [acts, i64s, List.range_succ]
theorem acts_length (m : Mch) (q k : Nat) : (acts m q k).length = k := by simp [acts]

set_option maxRecDepth 100000 in
set_option maxHeartbeats 4000000 in
theorem activity_any (b o : Nat) (m : Mch) (hwf : m.Wf) (hok : m.Ok) (q : Nat) (hq : q < m.s) (n : Nat) (hn : n ≤ 20) (w : World) (hm : MAt w b o m) :
    Calls Try.prog 34 #[.pointer (some ⟨b, o, none⟩), .int .i64 (q : Int), .int .i64 (n : Int)] w (fun e w' => ∃ v, e = .returned v ∧ Below w.heap.size w w' ∧ OwnI w' w.heap.size v (acts m q (n + 1))) := by
  obtain ⟨i0, hi, hz0, hz1, hz2⟩ := info_parts Try.info2
  have hs16 := hok.s_le
  have hl3 := hok.l_le
  have hbw : b < w.heap.size := World.block_lt_of_cell? w ⟨b, o, none⟩ hm.l
  go_enter Try.func34, Try.ntmps34
  go_wp2_with fail
  refine (table_any b o m hwf hok _ hm).mono ?_
  rintro e w1 ⟨T, rfl, hb1, hT⟩
  have hR := hT.reads hok.s_pos
  go_wp2_with fail
  refine (tableTrivial_any T m hwf hok _ hR).mono ?_
  rintro e w2 ⟨gt, rfl, hb2, hBt⟩
  have hR2 := hR.keep hb2
  have hbb2 := hb1.trans (hb2.mono hb1.size)
  have hm2 := hm.below hbb2 hbw
  have hcs : w2.cell? ⟨b, o + 1, none⟩ = some (.int .i64 (m.s : Int)) := by rw [← hok.S_eq]; exact hm2.s
  have hmk := mk_i64 m.s (by omega) w2
  have hN0 := Blk.new w2 (madeCells #[.int .i64 0] m.s) 2
  rw [made_i64] at hN0
  have hcq := hN0.cell' (nvs_get (fun _ => 0) hq)
  have hfq := hN0.free q
  have i1 : (0 : Int) ≤ (q : Int) := by omega
  have i2 : (q : Int) < (m.s : Int) := by omega
  have hN1 := Blk.new w2 ((madeCells #[.int .i64 0] m.s).setIfInBounds q (.int .i64 1)) 2
  rw [Array.toList_setIfInBounds, made_i64, show Value.int .i64 1 = .int .i64 ((1 : Nat) : Int) from rfl, nvs_set _ _ hq, show updN (fun _ => 0) q 1 = nowS m allB q 0 from funext fun r => by simp [nowS, updN]] at hN1
  have hb3 := hbb2.alloc hbb2.size (.cells ((madeCells #[.int .i64 0] m.s).setIfInBounds q (.int .i64 1)) 2)
  have ha2 : Below w2.heap.size w2 (w2.alloc (.cells ((madeCells #[.int .i64 0] m.s).setIfInBounds q (.int .i64 1)) 2)) := (Below.refl _ w2).alloc (Nat.le_refl _) _
  have hRl := hR2.keep ha2
  have hBl := hBt.keep ha2
  have hml := hm.below hb3 hbw
  obtain ⟨wl, hwl⟩ : ∃ wl, wl = w2.alloc (.cells ((madeCells #[.int .i64 0] m.s).setIfInBounds q (.int .i64 1)) 2) := ⟨_, rfl⟩
  have hN2 : Blk wl w2.heap.size (nvs m.s (nowS m allB q 0)) 2 := by rw [hwl]; exact hN1
  rw [← hwl] at hRl hBl hml hb3
  have hlt2 : w2.heap.size < wl.heap.size := hN2.lt
  go_wp2_with fail
  clear hN0 hN1 hcs hR hT hR2 hBt ha2 hmk hcq hfq hm2 hb1 hb2 hbb2
  go_loopw [9, 10, 31] (fun v9 v10 i wr => ∃ k gn : Nat, k ≤ n + 1 ∧ i = .int .i64 k ∧ v9 = .slice (some ⟨gn, 0, none⟩) m.s m.s ∧ Blk wr gn (nvs m.s (nowS m allB q k)) 2 ∧ OwnI wr wl.heap.size v10 (acts m q k) ∧ v10.ownBlock ≠ some gn ∧ Below wl.heap.size wl wr) (fun _ _ i _ => n + 1 - (intOf i).toNat)
  case atStart =>
    refine ⟨0, _, Nat.zero_le _, rfl, rfl, by rw [← hwl]; exact hN2, World.ownsRow_nil _ _ _ _, by simp [Value.ownBlock], by rw [hwl]; exact Below.refl _ _⟩
  case round =>
    clear hwl hN2
    obtain ⟨k, gn, hk, rfl, rfl, hN, hO, hne, hb⟩ := hrel
    by_cases hlt : k < n + 1
    · have hmr := hml.keep hb hwf
      have hcs : wr.cell? ⟨b, o + 1, none⟩ = some (.int .i64 (m.s : Int)) := by rw [← hok.S_eq]; exact hmr.s
      have hmk := mk_i64 m.s (by omega) wr
      have hX0 := Blk.new wr (madeCells #[.int .i64 0] m.s) 2
      rw [made_i64] at hX0
      obtain ⟨wo, rfl⟩ : ∃ wo : World, wo = wr := ⟨_, rfl⟩
      have hbx : Below wo.heap.size wo (wo.alloc (.cells (madeCells #[.int .i64 0] m.s) 2)) := (Below.refl _ _).alloc (Nat.le_refl _) _
      have HT0 := tot_nowS hok hwf allB hq k
      have HP := pow3 (k := k) (by omega)
      have HNOW : ∀ t, t < m.s → nowS m allB q k t ≤ 10460353203 := fun t ht => Nat.le_trans (le_tot _ _ _ ht) (by omega)
      have HNX : ∀ r, r < m.s → ∀ x, x ≤ m.l → ∀ t, t < m.s → nxX m (nowS m allB q k) r x (nxRow m allB (nowS m allB q k) r) t ≤ 70000000000 := fun r hr x hx t ht => by
        have h1 := le_tot (nxX m (nowS m allB q k) r x (nxRow m allB (nowS m allB q k) r)) m.s t ht
        rw [tot_nxX hok hwf _ _ hr x hx] at h1
        have h2 := tot_nxRow hok hwf allB (nowS m allB q k) r (by omega)
        have h3 := tot_mono (nowS m allB q k) r (m.s - r)
        rw [show r + (m.s - r) = m.s by omega] at h3
        have h4 : m.l * tot (nowS m allB q k) r ≤ 3 * 10460353203 := Nat.mul_le_mul hl3 (by omega)
        have h5 : nowS m allB q k r * x ≤ 10460353203 * 3 := Nat.mul_le_mul (HNOW r hr) (by omega)
        omega
      have HSUM : ∀ r, r ≤ m.s → sumR m (nowS m allB q k) r ≤ 10460353203 := fun r hr => by
        have h1 := sumR_le m (nowS m allB q k) r
        have h3 := tot_mono (nowS m allB q k) r (m.s - r)
        rw [show r + (m.s - r) = m.s by omega] at h3
        omega
      have HNOW' := Lib.hid HNOW
      have HNX' := Lib.hid HNX
      have HSUM' := Lib.hid HSUM
      clear HNOW HNX HSUM HT0 HP
      generalize hnow : nowS m allB q k = now at *
      go_wp2_with fail
      clear hmk
      obtain ⟨gN, cN, gO, cO, hc1, hc2, h3, h4⟩ := id (hRl.keep hb)
      have H3 := Lib.hid h3
      clear h3 h4 hc2
      have hTw : T < wo.heap.size := World.block_lt_of_cell? wo _ hc1
      go_loopw [11, 40] (fun v11 i wi => ∃ r : Nat, r ≤ m.s ∧ i = .int .i64 r ∧ v11 = .int .i64 (sumR m now r : Int) ∧ Blk wi wo.heap.size (nvs m.s (nxRow m allB now r)) 2 ∧ Below wo.heap.size wo wi) (fun _ i _ => m.s - (intOf i).toNat)
      case atStart => exact ⟨0, Nat.zero_le _, rfl, rfl, hX0, hbx⟩
      case round =>
        clear hX0 hbx
        obtain ⟨r, hr, rfl, rfl, hX, hbi⟩ := hrel
        by_cases hrlt : r < m.s
        · obtain ⟨g, cg, hcg, hrow⟩ := H3.out r hrlt
          have hgw : gN < wo.heap.size := World.block_lt_of_cell? wo _ hcg
          have HROW := Lib.hid hrow
          have e1 : wr.cell? ⟨T, 0, none⟩ = some (.slice (some ⟨gN, 0, none⟩) m.s cN) := (hbi.cell (p := ⟨T, 0, none⟩) hTw).trans hc1
          have e2 : wr.cell? ⟨gN, r, none⟩ = some (.slice (some ⟨g, 0, none⟩) m.l cg) := (hbi.cell (p := ⟨gN, r, none⟩) hgw).trans hcg
          have e3 := (hN.keep hbi).cell' (nvs_get now hrlt)
          have e4 := ((hBl.keep hb).keep hbi).cell' (bvs_get (trivB m) hrlt)
          have j1 : (0 : Int) ≤ (r : Int) := by omega
          have j2 : (r : Int) < (m.s : Int) := by omega
          have HM : (now r : Int) ≤ 10460353203 := by have := HNOW'.out r hrlt; omega
          have HS : (sumR m now r : Int) ≤ 10460353203 := by have := HSUM'.out r hr; omega
          have HSS : Hid (sumR m now (r + 1) = sumR m now r + if trivB m r then 0 else now r) := rfl
          clear hrow hcg
          obtain ⟨M, hM⟩ : ∃ M, M = now r := ⟨_, rfl⟩
          obtain ⟨SU, hSU⟩ : ∃ SU, SU = sumR m now r := ⟨_, rfl⟩
          rw [← hM] at e3 HM HSS
          rw [← hSU] at HS HSS
          rw [← hSU]
          have HMM := Lib.hid hM
          clear hM hSU
          obtain ⟨SV, hSV, HSV⟩ : ∃ SV : Nat, Hid (sumR m now (r + 1) = SV) ∧ SV = SU + (if trivB m r then 0 else M) := ⟨_, HSS, rfl⟩
          clear HSS
          cases ht : trivB m r
          · rw [ht] at e4 HSV
            simp only [Bool.false_eq_true, if_false] at HSV
            clear ht
            go_wp2_with fail
            obtain ⟨wb, rfl⟩ : ∃ wb : World, wb = wr := ⟨_, rfl⟩
            go_loopw [61] (fun i wi => ∃ x : Nat, x ≤ m.l ∧ i = .int .i64 x ∧ Blk wi wo.heap.size (nvs m.s (nxX m now r x (nxRow m allB now r))) 2 ∧ Below wo.heap.size wo wi) (fun i _ => m.l - (intOf i).toNat)
            case atStart => exact ⟨0, Nat.zero_le _, rfl, hX, hbi⟩
            case round =>
              clear hX hbi e1 e2 e3 e4
              obtain ⟨x, hx, rfl, hX, hbi⟩ := hrel
              by_cases hxlt : x < m.l
              · have c0 := HROW.out x hxlt
                have hgx : g < wo.heap.size := World.block_lt_of_cell? wo _ c0
                rw [← hbi.cell (p := ⟨g, x, none⟩) hgx] at c0
                have hnn := hok.nn_lt hwf hrlt hxlt
                have c1 := hX.cell' (nvs_get (nxX m now r x (nxRow m allB now r)) hnn)
                have f1 := hX.free (m.nn r x)
                have HB := HNX'.out r hrlt x hx (m.nn r x) hnn
                have hset := hX.setCell (m.nn r x) (.int .i64 ((nxX m now r x (nxRow m allB now r) (m.nn r x) + now r : Nat) : Int))
                rw [nvs_set _ _ hnn] at hset
                have HSET : Hid (Blk (wr.setCell ⟨wo.heap.size, m.nn r x, none⟩ (.int .i64 ((nxX m now r x (nxRow m allB now r) (m.nn r x) : Int) + (now r : Int)))) wo.heap.size (nvs m.s (nxX m now r (x + 1) (nxRow m allB now r))) 2) := by
                  rw [Int.natCast_add] at hset; exact hset
                have hbs := hbi.setCell (p := ⟨wo.heap.size, m.nn r x, none⟩) (Nat.le_refl _) (.int .i64 ((nxX m now r x (nxRow m allB now r) (m.nn r x) : Int) + (now r : Int)))
                clear hset
                rw [← HMM.out] at HSET hbs
                obtain ⟨F, hF⟩ : ∃ F, F = nxX m now r x (nxRow m allB now r) (m.nn r x) := ⟨_, rfl⟩
                rw [← hF] at c1 HB HSET hbs
                clear hF
                have i3 : (0 : Int) ≤ (x : Int) := by omega
                have i4 : (x : Int) < (m.l : Int) := by omega
                have i5 : (F : Int) ≤ 70000000000 := by omega
                generalize m.nn r x = z at *
                have i6 : (0 : Int) ≤ (z : Int) := by omega
                have i7 : (z : Int) < (m.s : Int) := by omega
                clear HB
                go_wp2_with fail
                go_roundw
                case rel => exact ⟨x + 1, by omega, by go_num, HSET.out, hbs⟩
                case measure => simp [intOf]; omega
              · have hx' : x = m.l := by omega
                subst hx'
                have HN : Hid (Blk wr wo.heap.size (nvs m.s (nxRow m allB now (r + 1))) 2) := by
                  show Blk _ _ _ _
                  simpa [nxRow, allB] using hX
                go_wp2_with fail
                go_roundw
                case rel => exact ⟨r + 1, by omega, by go_num, by rw [hSV.out, HSV]; go_num, HN.out, hbi⟩
                case measure => simp [intOf]; omega
          · rw [ht] at e4 HSV
            simp only [if_true, Nat.add_zero] at HSV
            clear ht
            go_wp2_with fail
            obtain ⟨wb, rfl⟩ : ∃ wb : World, wb = wr := ⟨_, rfl⟩
            go_loopw [61] (fun i wi => ∃ x : Nat, x ≤ m.l ∧ i = .int .i64 x ∧ Blk wi wo.heap.size (nvs m.s (nxX m now r x (nxRow m allB now r))) 2 ∧ Below wo.heap.size wo wi) (fun i _ => m.l - (intOf i).toNat)
            case atStart => exact ⟨0, Nat.zero_le _, rfl, hX, hbi⟩
            case round =>
              clear hX hbi e1 e2 e3 e4
              obtain ⟨x, hx, rfl, hX, hbi⟩ := hrel
              by_cases hxlt : x < m.l
              · have c0 := HROW.out x hxlt
                have hgx : g < wo.heap.size := World.block_lt_of_cell? wo _ c0
                rw [← hbi.cell (p := ⟨g, x, none⟩) hgx] at c0
                have hnn := hok.nn_lt hwf hrlt hxlt
                have c1 := hX.cell' (nvs_get (nxX m now r x (nxRow m allB now r)) hnn)
                have f1 := hX.free (m.nn r x)
                have HB := HNX'.out r hrlt x hx (m.nn r x) hnn
                have hset := hX.setCell (m.nn r x) (.int .i64 ((nxX m now r x (nxRow m allB now r) (m.nn r x) + now r : Nat) : Int))
                rw [nvs_set _ _ hnn] at hset
                have HSET : Hid (Blk (wr.setCell ⟨wo.heap.size, m.nn r x, none⟩ (.int .i64 ((nxX m now r x (nxRow m allB now r) (m.nn r x) : Int) + (now r : Int)))) wo.heap.size (nvs m.s (nxX m now r (x + 1) (nxRow m allB now r))) 2) := by
                  rw [Int.natCast_add] at hset; exact hset
                have hbs := hbi.setCell (p := ⟨wo.heap.size, m.nn r x, none⟩) (Nat.le_refl _) (.int .i64 ((nxX m now r x (nxRow m allB now r) (m.nn r x) : Int) + (now r : Int)))
                clear hset
                rw [← HMM.out] at HSET hbs
                obtain ⟨F, hF⟩ : ∃ F, F = nxX m now r x (nxRow m allB now r) (m.nn r x) := ⟨_, rfl⟩
                rw [← hF] at c1 HB HSET hbs
                clear hF
                have i3 : (0 : Int) ≤ (x : Int) := by omega
                have i4 : (x : Int) < (m.l : Int) := by omega
                have i5 : (F : Int) ≤ 70000000000 := by omega
                generalize m.nn r x = z at *
                have i6 : (0 : Int) ≤ (z : Int) := by omega
                have i7 : (z : Int) < (m.s : Int) := by omega
                clear HB
                go_wp2_with fail
                go_roundw
                case rel => exact ⟨x + 1, by omega, by go_num, HSET.out, hbs⟩
                case measure => simp [intOf]; omega
              · have hx' : x = m.l := by omega
                subst hx'
                have HN : Hid (Blk wr wo.heap.size (nvs m.s (nxRow m allB now (r + 1))) 2) := by
                  show Blk _ _ _ _
                  simpa [nxRow, allB] using hX
                go_wp2_with fail
                go_roundw
                case rel => exact ⟨r + 1, by omega, by go_num, by rw [hSV.out, HSV], HN.out, hbi⟩
                case measure => simp [intOf]; omega
        · have hr' : r = m.s := by omega
          subst hr'
          have hOr := hO.below hbi
          have hbX := hb.trans (hbi.mono hb.size)
          have HLEN := acts_length m q k
          have HS : (sumR m now m.s : Int) ≤ 10460353203 := by have := HSUM'.out m.s (Nat.le_refl _); omega
          have HAC := Lib.hid (acts_succ m q k)
          rw [hnow] at HAC
          have HNX2 : Hid (Blk wr wo.heap.size (nvs m.s (nowS m allB q (k + 1))) 2) := by
            show Blk _ _ _ _
            rw [nowS, hnow]; exact hX
          have hXlt := hX.lt
          have hOlt : ∀ g, u10.ownBlock = some g → g < wo.heap.size := fun g hg => (World.ownsRow.lt hO g hg).2
          have HOLT := Lib.hid hOlt
          clear hX hOlt hc1
          obtain ⟨SU, hSU⟩ : ∃ SU, SU = sumR m now m.s := ⟨_, rfl⟩
          rw [← hSU] at HS HAC
          rw [← hSU]
          clear hSU
          go_wp2_with (at_builtin; refine wpList_append_lies _ rfl (.tmp 74) (.tmp 76) 31 rfl wl.heap.size 2 i0 (.int .i64 0) 1 8 Try.underlying31 hi hz0 hz1 hz2 rfl (by decide) _ _ _ rfl (World.ownsRow.alloc hOr _) ⟨_, 0, none⟩ 1 1 [.int .i64 (SU : Int)] rfl rfl (one_news _ _ _) (by simp [Value.oneCell']) (by omega) ?c3 ?c4 ?c5 _ rfl ?_)
          case c3 => simp [maxLen]; omega
          case c4 => omega
          case c5 => have := hbX.size; simp; omega
          intro g cap w1 hown hgrow hlies hlt1
          obtain ⟨hb1, hsz1, -⟩ := grown_below hbX hOr (Nat.le_refl _) hbX.size hgrow
          have hXk : Blk w1 wo.heap.size (nvs m.s (nowS m allB q (k + 1))) 2 :=
            (hgrow.block wo.heap.size (by simp; omega) (fun e => by have := HOLT.out _ e.symm; omega)).trans (HNX2.out.alloc _)
          have hne' : (Value.slice (some ⟨g, 0, none⟩) (k + 1) cap).ownBlock ≠ some wo.heap.size := fun e => by
            simp only [Value.ownBlock] at e
            rcases hlies with h | h
            · have := HOLT.out _ h; simp at e; omega
            · simp at h e; omega
          have hO1 : Hid (OwnI w1 wl.heap.size (.slice (some ⟨g, 0, none⟩) (k + 1) cap) (acts m q (k + 1))) := by
            show World.ownsRow _ _ _ _ _ _ _
            rw [HAC.out, acts_length]
            exact hown
          clear hown hgrow hlies hlt1 hOr hO hbX HNX2
          go_wp2_with fail
          go_roundw
          case rel => exact ⟨k + 1, _, by omega, by go_num, rfl, hXk, hO1.out, hne', hb1⟩
          case measure => simp [intOf]; omega
    · have hk' : k = n + 1 := by omega
      subst hk'
      have hend := hb3.trans (hb.mono hb3.size)
      have hO2 := Lib.hid (hO.less (C := w.heap.size) (by have := hb3.size; omega))
      clear hO
      go_wp2_with fail
      go_ret
      exact ⟨_, rfl, hend, hO2.out⟩
end Go.Proofs.Ythgkkaifdlkciaa

/- ActivityCounts of the program. -/
namespace Go.Proofs.Ythgkkaifdlkciaa
open Go.RowKit
set_option linter.unusedVariables false
set_option linter.unusedSimpArgs false

theorem short_nil : Short ⟨#[]⟩ := by show (0 : Nat) ≤ _; omega
def actsC (m : Mch) (q n : Int) : Int := if codeP m q ⟨#[]⟩ = 0 then (if inR n 0 20 then 0 else 2) else codeP m q ⟨#[]⟩
def actsL (m : Mch) (q n : Int) : List Int := if actsC m q n = 0 then acts m q.toNat (n.toNat + 1) else []
/-- it returns a slice of numbers of its own and a code -/
def RetI (xs : List Int) (c : Int) (w : World) (e : Ending) (w' : World) : Prop := ∃ v, e = .returned (.tuple #[v, .int .i64 c]) ∧ Below w.heap.size w w' ∧ OwnI w' w.heap.size v xs
theorem OwnI.nil (w : World) (B : Nat) : OwnI w B (.slice none 0 0) [] := World.ownsRow_nil _ _ _ _

end Go.Proofs.Ythgkkaifdlkciaa

/- Words of a level that are such; BoundaryWords of both sides. -/
namespace Go.Proofs.Ythgkkaifdlkciaa
open Go.RowKit
set_option linter.unusedVariables false
set_option linter.unusedSimpArgs false

/-- a whole row read in an operation of a drawn region -/
theorem run_ld {b o T : Nat} {D : List Value} {d : TypeDesc} (hu : Try.prog.underlying T = some d) (hd : d.isRow = true) (hi : (Try.prog.info? T).map (·.size) = some D.length) (x : Operand) {a : Act} {op : Oper} (ho : op.op = .load T x) (hx : a.eval x = .pointer (some ⟨b, o, none⟩)) {w : World} (h : w.rangeAt b o D) :
    (execOp a.eval op).run Try.prog w = .ok (.value (.agg D.toArray)) w := by
  unfold execOp
  simp only [ho, hx, Instr.loadAt, Instr.sureAddr, Sem.run_bind, Sem.run_pure, Result.andThen_ok, run_loadVar_mid w b o T D d h hu hd hi]
theorem mach_info {m : Mch} (hwf : m.Wf) : (Try.prog.info? 28).map (·.size) = some m.cells.length := by rw [Mch.cells_length hwf]; kernel_rfl
/-! BoundaryWords -/
end Go.Proofs.Ythgkkaifdlkciaa

/- Equal states of the reference: l01Same, l01Classes. -/
namespace Go.Proofs.Ythgkkaifdlkciaa
open Go.RowKit
set_option linter.unusedVariables false
set_option linter.unusedSimpArgs false

theorem nvs_len (n : Nat) (f : Nat → Nat) : (nvs n f).length = n := by simp [nvs]
theorem nvs_one (n : Nat) (f : Nat → Nat) : ∀ v ∈ nvs n f, v.oneCell' = true := fun v hv => by simp only [nvs, List.mem_map] at hv; obtain ⟨z, _, rfl⟩ := hv; rfl
theorem nvs16_info (f : Nat → Nat) : (Try.prog.info? 78).map (·.size) = some (nvs 16 f).length := by rw [nvs_len]; kernel_rfl
theorem nvs_congr {n : Nat} {f g : Nat → Nat} (h : ∀ q, q < n → f q = g q) : nvs n f = nvs n g := by
  simp only [nvs]
  exact List.map_congr_left fun q hq => by rw [h q (by simpa using hq)]

def sameB (m : Mch) (c : Nat → Nat) (q r : Nat) : Bool := (List.range m.l).all fun x => m.on q x == m.on r x && c (m.nn q x) == c (m.nn r x)
theorem sameB_false {m : Mch} {c : Nat → Nat} {q r x : Nat} (hx : x < m.l) (h : (m.on q x == m.on r x && c (m.nn q x) == c (m.nn r x)) = false) : sameB m c q r = false := by
  rw [sameB, List.all_eq_false]; exact ⟨x, by simpa using hx, by simp [h]⟩
theorem allUpto_succ (f : Nat → Bool) (k : Nat) : (List.range (k + 1)).all f = ((List.range k).all f && f k) := by simp [List.range_succ]

set_option maxRecDepth 100000 in
set_option maxHeartbeats 1000000 in
theorem l01Same_any (m : Mch) (hwf : m.Wf) (hok : m.Ok) (c : Nat → Nat) (q r : Nat) (hq : q < m.s) (hr : r < m.s) (w : World) :
    Calls Try.prog 109 #[.agg m.cells.toArray, .agg (nvs 16 c).toArray, .int .i64 q, .int .i64 r] w (Ret (.bool (sameB m c q r)) w) := by
  have hM0 := ((Mm.start w).alloc m.cells.toArray 28).alloc (nvs 16 c).toArray 78
  rw [show (w.alloc (.cells m.cells.toArray 28)).heap.size = w.heap.size + 1 by simp, List.toList_toArray, List.toList_toArray] at hM0
  have hs16 := hok.s_le
  have hl3 := hok.l_le
  go_enter Try.func109, Try.ntmps109
  go_wp2_with fail
  go_loopw [9] (fun i wr => ∃ x : Nat, x ≤ m.l ∧ i = .int .i64 x ∧ Mm w.heap.size w wr [(w.heap.size + 1, nvs 16 c, 78), (w.heap.size, m.cells, 28)] [] ∧ Hid ((List.range x).all (fun x => m.on q x == m.on r x && c (m.nn q x) == c (m.nn r x)) = true)) (fun i _ => m.l - (intOf i).toNat)
  case atStart => exact ⟨0, Nat.zero_le _, rfl, hM0, rfl⟩
  case round =>
    clear hM0
    obtain ⟨x, hx, rfl, hM, HA⟩ := hrel
    have hm := hM.mach 1 rfl
    have hcl : wr.cell? ⟨w.heap.size, 0, none⟩ = some (.int .i64 (m.l : Int)) := by rw [← hok.L_eq]; exact hm.l
    by_cases hxlt : x < m.l
    · have a1 := hm.oo hwf (q := q) (x := x) (by omega) (by omega)
      have a2 := hm.oo hwf (q := r) (x := x) (by omega) (by omega)
      have b1 := hm.nn hwf (q := q) (x := x) (by omega) (by omega)
      have b2 := hm.nn hwf (q := r) (x := x) (by omega) (by omega)
      rw [hok.o_eq hwf hq hxlt] at a1
      rw [hok.o_eq hwf hr hxlt] at a2
      rw [hok.n_eq hwf hq hxlt] at b1
      rw [hok.n_eq hwf hr hxlt] at b2
      have n1 := hok.nn_lt hwf hq hxlt
      have n2 := hok.nn_lt hwf hr hxlt
      have hB := hM.at 0 rfl
      have c1 := hB.cell' (nvs_get c (q := m.nn q x) (by omega))
      have c2 := hB.cell' (nvs_get c (q := m.nn r x) (by omega))
      have HF : Hid ((m.on q x == m.on r x && c (m.nn q x) == c (m.nn r x)) = false → sameB m c q r = false) := fun h => sameB_false hxlt h
      have HN := Lib.hid (allUpto_succ (fun x => m.on q x == m.on r x && c (m.nn q x) == c (m.nn r x)) x)
      rw [HA.out] at HN
      have i1 : (0 : Int) ≤ (x : Int) := by omega
      have i2 : (x : Int) < 3 := by omega
      have i3 : (q : Int) < 16 := by omega
      have i4 : (r : Int) < 16 := by omega
      have i5 : (0 : Int) ≤ (q : Int) := by omega
      have i6 : (0 : Int) ≤ (r : Int) := by omega
      clear hm hB
      generalize m.on q x = y1 at *
      generalize m.on r x = y2 at *
      generalize m.nn q x = z1 at *
      generalize m.nn r x = z2 at *
      generalize c z1 = k1 at *
      generalize c z2 = k2 at *
      have i7 : (z1 : Int) < 16 := by omega
      have i8 : (z2 : Int) < 16 := by omega
      by_cases e1 : y1 = y2
      · subst e1
        by_cases e2 : k1 = k2
        · subst e2
          have HT : Hid ((List.range (x + 1)).all (fun x => m.on q x == m.on r x && c (m.nn q x) == c (m.nn r x)) = true) := by show _ = _; rw [HN.out]; simp
          go_wp2_with fail
          go_quiet (fail)
          go_wp2_with fail
          go_roundw
          case rel => exact ⟨x + 1, by omega, by go_num, hM.drewN _, HT⟩
          case measure => simp [intOf] <;> omega
        · have HR := Lib.hid (HF.out (by simp [e2]))
          have e2' : ((k1 : Int) != (k2 : Int)) = true := by simp; omega
          clear e2
          go_wp2_with fail
          go_quiet (fail)
          go_wp2_with fail
          go_ret
          exact ⟨ret_bool HR.out.symm, (hM.drewN _).below⟩
      · have HR := Lib.hid (HF.out (by simp [e1]))
        have e1' : ((y1 : Int) != (y2 : Int)) = true := by simp; omega
        clear e1
        go_wp2_with fail
        go_quiet (fail)
        go_wp2_with fail
        go_ret
        exact ⟨ret_bool HR.out.symm, (hM.drewN _).below⟩
    · have hx' : x = m.l := by omega
      subst hx'
      have hbl := hM.below
      clear hm hM
      go_wp2_with fail
      go_ret
      exact ⟨ret_bool HA.out.symm, hbl⟩

/-! the classes -/
theorem sameB_eqv {m : Mch} {k q r : Nat} (hq : q < m.s) (hr : r < m.s) (hok : m.Ok) (hwf : m.Wf) {c : Nat → Nat} (hc : ∀ q, q < m.s → c q = m.tbl.cls k q) : sameB m c q r = true ↔ m.tbl.eqv (k + 1) q r = true := by
  rw [Tbl.eqv_succ]
  simp only [sameB, List.all_eq_true, List.mem_range, Bool.and_eq_true, beq_iff_eq]
  constructor
  · intro h x hx
    have := h x hx
    rw [hc _ (hok.nn_lt hwf hq hx), hc _ (hok.nn_lt hwf hr hx)] at this
    exact ⟨this.1, (m.tbl.cls_iff k _ _).2 this.2⟩
  · intro h x hx
    have := h x hx
    rw [hc _ (hok.nn_lt hwf hq hx), hc _ (hok.nn_lt hwf hr hx)]
    exact ⟨this.1, (m.tbl.cls_iff k _ _).1 this.2⟩
def cV (m : Mch) (k q : Nat) : Nat := if q < m.s then m.tbl.cls k q else 0
theorem cV_lt {m : Mch} {k q : Nat} (h : q < m.s) : cV m k q = m.tbl.cls k q := if_pos h
/-- the classes of the first j states of the next round -/
def nV (m : Mch) (k j q : Nat) : Nat := if q < j then m.tbl.cls (k + 1) q else 0
theorem nV_upd (m : Mch) (k j v : Nat) (h : m.tbl.cls (k + 1) j = v) : updN (nV m k j) j v = nV m k (j + 1) := by
  funext q
  simp only [updN, nV]
  by_cases e : q = j
  · subst e; rw [if_pos rfl, if_pos (by omega), h]
  · rw [if_neg e]
    by_cases h1 : q < j
    · rw [if_pos h1, if_pos (by omega)]
    · rw [if_neg h1, if_neg (by omega)]
theorem upd_upd (f : Nat → Nat) (j v u : Nat) : updN (updN f j v) j u = updN f j u := by funext q; simp only [updN]; split <;> rfl
theorem nV_all (m : Mch) (k : Nat) : nV m k m.s = cV m (k + 1) := by funext q; rfl
/-- is r taken for q? -/
def okR (m : Mch) (k q r : Nat) : Bool := cV m k q == cV m k r && sameB m (cV m k) q r
theorem okR_eqv {m : Mch} (hok : m.Ok) (hwf : m.Wf) {k q r : Nat} (hq : q < m.s) (hr : r < m.s) : okR m k q r = m.tbl.eqv (k + 1) q r := by
  rw [Bool.eq_iff_iff, okR, Bool.and_eq_true, beq_iff_eq, sameB_eqv hq hr hok hwf (fun q h => cV_lt h), cV_lt hq, cV_lt hr]
  exact ⟨fun h => h.2, fun h => ⟨(m.tbl.cls_iff k q r).1 (m.tbl.eqv_mono k q r h), h⟩⟩
theorem cls_found {m : Mch} (hok : m.Ok) (hwf : m.Wf) {k q r : Nat} (hq : q < m.s) (hr : r < q) (h : okR m k q r = true) (hmin : ∀ s, s < r → okR m k q s = false) : m.tbl.cls (k + 1) q = r := by
  refine lst_eq (by omega) (fun _ => ?_) (fun s hs => ?_)
  · rw [← okR_eqv hok hwf hq (by omega)]; exact h
  · rw [← okR_eqv hok hwf hq (by omega)]; exact hmin s hs
theorem cls_none {m : Mch} (hok : m.Ok) (hwf : m.Wf) {k q : Nat} (hq : q < m.s) (hmin : ∀ s, s < q → okR m k q s = false) : m.tbl.cls (k + 1) q = q := by
  refine lst_eq (by omega) (fun h => by omega) (fun s hs => ?_)
  rw [← okR_eqv hok hwf hq (by omega)]; exact hmin s hs
theorem cls_fix {m : Mch} (hok : m.Ok) (hwf : m.Wf) {k q r : Nat} (hq : q < m.s) (hr : r < q) (h : okR m k q r = true) (hmin : ∀ s, s < r → okR m k q s = false) : m.tbl.cls (k + 1) r = r := by
  have := cls_found hok hwf hq hr h hmin
  rw [← this]; exact m.tbl.cls_cls _ _

theorem zer16 : (#[.int .i64 0, .int .i64 0, .int .i64 0, .int .i64 0, .int .i64 0, .int .i64 0, .int .i64 0, .int .i64 0, .int .i64 0, .int .i64 0, .int .i64 0, .int .i64 0, .int .i64 0, .int .i64 0, .int .i64 0, .int .i64 0] : Array Value).toList = nvs 16 fun _ => 0 := rfl

set_option maxRecDepth 100000 in
set_option maxHeartbeats 4000000 in
theorem l01Classes_any (m : Mch) (hwf : m.Wf) (hok : m.Ok) (w : World) :
    Calls Try.prog 96 #[.agg m.cells.toArray] w (Ret (.agg (nvs 16 (fun q => if q < m.s then m.tbl.fin q else 0)).toArray) w) := by
  have hs16 := hok.s_le
  have hl3 := hok.l_le
  obtain ⟨Z, hZ⟩ : ∃ Z : Array Value, Z = #[.int .i64 0, .int .i64 0, .int .i64 0, .int .i64 0, .int .i64 0, .int .i64 0, .int .i64 0, .int .i64 0, .int .i64 0, .int .i64 0, .int .i64 0, .int .i64 0, .int .i64 0, .int .i64 0, .int .i64 0, .int .i64 0] := ⟨_, rfl⟩
  have hM0 := (((Mm.start w).alloc m.cells.toArray 28).alloc Z 78).alloc Z 78
  rw [show ((w.alloc (.cells m.cells.toArray 28)).alloc (.cells Z 78)).heap.size = w.heap.size + 1 + 1 by simp, show (w.alloc (.cells m.cells.toArray 28)).heap.size = w.heap.size + 1 by simp, List.toList_toArray] at hM0
  rw [hZ, zer16, show (nvs 16 fun _ => 0) = nvs 16 (cV m 0) from nvs_congr fun q _ => by simp only [cV]; rw [Tbl.cls_zero]; split <;> rfl] at hM0
  clear hZ
  go_enter Try.func96, Try.ntmps96
  go_wp2_with fail
  go_loopw [4] (fun i wr => ∃ k : Nat, k ≤ m.s + 1 ∧ i = .int .i64 k ∧ Mm w.heap.size w wr [(w.heap.size + 1 + 1, nvs 16 (cV m k), 78), (w.heap.size + 1, nvs 16 (cV m 0), 78), (w.heap.size, m.cells, 28)] []) (fun i _ => m.s + 1 - (intOf i).toNat)
  case atStart => exact ⟨0, Nat.zero_le _, rfl, hM0⟩
  case round =>
    clear hM0
    obtain ⟨k, hk, rfl, hM⟩ := hrel
    have hcs : wr.cell? ⟨w.heap.size, 1, none⟩ = some (.int .i64 (m.s : Int)) := by rw [← hok.S_eq]; exact (hM.mach 2 rfl).s
    by_cases hklt : k ≤ m.s
    · obtain ⟨wo, rfl⟩ : ∃ wo : World, wo = wr := ⟨_, rfl⟩
      have hX := hM.alloc #[.int .i64 0, .int .i64 0, .int .i64 0, .int .i64 0, .int .i64 0, .int .i64 0, .int .i64 0, .int .i64 0, .int .i64 0, .int .i64 0, .int .i64 0, .int .i64 0, .int .i64 0, .int .i64 0, .int .i64 0, .int .i64 0] 78
      rw [zer16, show (nvs 16 fun _ => 0) = nvs 16 (nV m k 0) from nvs_congr fun q _ => by simp [nV]] at hX
      obtain ⟨E, hE⟩ : ∃ E, E = wo.heap.size := ⟨_, rfl⟩
      rw [← hE] at hX
      clear hM
      go_wp2_with fail
      rw [← hE]
      go_loopw [6] (fun i wi => ∃ q : Nat, q ≤ m.s ∧ i = .int .i64 q ∧ Mm w.heap.size w wi [(E, nvs 16 (nV m k q), 78), (w.heap.size + 1 + 1, nvs 16 (cV m k), 78), (w.heap.size + 1, nvs 16 (cV m 0), 78), (w.heap.size, m.cells, 28)] []) (fun i _ => m.s - (intOf i).toNat)
      case atStart => exact ⟨0, Nat.zero_le _, rfl, hX⟩
      case round =>
        clear hX hcs hE
        obtain ⟨q, hq, rfl, hM⟩ := hrel
        have hcs : wr.cell? ⟨w.heap.size, 1, none⟩ = some (.int .i64 (m.s : Int)) := by rw [← hok.S_eq]; exact (hM.mach 3 rfl).s
        by_cases hqlt : q < m.s
        · have c1 := (hM.at 0 rfl).cell' (nvs_get (nV m k q) (q := q) (by omega))
          have f1 := (hM.at 0 rfl).free q
          have hM1 := hM.setCell 0 rfl q (.int .i64 (q : Int))
          simp only [List.set_cons_zero] at hM1
          rw [nvs_set _ _ (by omega)] at hM1
          have HM1 := Lib.hid hM1
          clear hM hM1
          generalize nV m k q q = old at *
          have i1 : (q : Int) < 16 := by omega
          have i2 : (0 : Int) ≤ (q : Int) := by omega
          go_wp2_with fail
          clear c1 f1
          go_loopw [7] (fun i wi => ∃ r : Nat, r ≤ q ∧ i = .int .i64 r ∧ Mm w.heap.size w wi [(E, nvs 16 (updN (nV m k q) q q), 78), (w.heap.size + 1 + 1, nvs 16 (cV m k), 78), (w.heap.size + 1, nvs 16 (cV m 0), 78), (w.heap.size, m.cells, 28)] [] ∧ Hid (∀ s, s < r → okR m k q s = false)) (fun i _ => q - (intOf i).toNat)
          case atStart => exact ⟨0, Nat.zero_le _, rfl, HM1.out, fun s hs => by omega⟩
          case round =>
            clear HM1 hcs
            obtain ⟨r, hr, rfl, hM, HN⟩ := hrel
            by_cases hrlt : r < q
            · have c1 := (hM.at 1 rfl).cell' (nvs_get (cV m k) (q := q) (by omega))
              have c2 := (hM.at 1 rfl).cell' (nvs_get (cV m k) (q := r) (by omega))
              have i3 : (r : Int) < 16 := by omega
              have i4 : (0 : Int) ≤ (r : Int) := by omega
              have i5 : (r : Int) < (q : Int) := by omega
              have HOK : Hid (okR m k q r = (cV m k q == cV m k r && sameB m (cV m k) q r)) := rfl
              have HNX : Hid (okR m k q r = false → ∀ s, s < r + 1 → okR m k q s = false) := fun h s hs => by
                by_cases e : s = r
                · subst e; exact h
                · exact HN.out s (by omega)
              obtain ⟨a, ha⟩ : ∃ a, a = cV m k q := ⟨_, rfl⟩
              obtain ⟨b, hb⟩ : ∃ b, b = cV m k r := ⟨_, rfl⟩
              rw [← ha] at c1
              rw [← hb] at c2
              rw [← ha, ← hb] at HOK
              by_cases e : a = b
              · have HSM : Hid (∀ W, Calls Try.prog 109 #[.agg m.cells.toArray, .agg (nvs 16 (cV m k)).toArray, .int .i64 q, .int .i64 r] W (Ret (.bool (sameB m (cV m k) q r)) W)) := fun W => l01Same_any m hwf hok (cV m k) q r hqlt (by omega) W
                have HIM := Lib.hid (mach_info hwf)
                have HIC := Lib.hid (nvs16_info (cV m k))
                have hmx : Try.prog.follows .mixedOrders = true := by kernel_rfl
                have HMX := Lib.hid hmx
                have HS : Hid (∀ W, Below wr.heap.size wr W → (W.rangeAt w.heap.size 0 m.cells ∧ W.rangeAt (w.heap.size + 1 + 1) 0 (nvs 16 (cV m k)) ∧ W.cell? ⟨w.heap.size + 1 + 1, q, none⟩ = some (.int .i64 (a : Int)) ∧ W.cell? ⟨w.heap.size + 1 + 1, r, none⟩ = some (.int .i64 (a : Int)))) := fun W hW => by
                  have h := hM.call hW
                  refine ⟨(h.at 3 rfl).all, (h.at 1 rfl).all, ?_, ?_⟩
                  · rw [ha]; exact (h.at 1 rfl).cell' (nvs_get (cV m k) (q := q) (by omega))
                  · rw [e, hb]; exact (h.at 1 rfl).cell' (nvs_get (cV m k) (q := r) (by omega))
                subst e
                clear hmx ha hb c1 c2
                go_wp2_with fail
                refine region_S (fun W => W.rangeAt w.heap.size 0 m.cells ∧ W.rangeAt (w.heap.size + 1 + 1) 0 (nvs 16 (cV m k)) ∧ W.cell? ⟨w.heap.size + 1 + 1, q, none⟩ = some (.int .i64 (a : Int)) ∧ W.cell? ⟨w.heap.size + 1 + 1, r, none⟩ = some (.int .i64 (a : Int))) [] 14 rfl HMX.out (HS.out _ (Below.refl _ wr).drew) (fun hU => ?_)
                obtain ⟨W, hW⟩ : ∃ W, W = wr.drew := ⟨_, rfl⟩
                have hBW : Below wr.heap.size wr W := by rw [hW]; exact (Below.refl _ wr).drew
                rw [← hW] at hU ⊢
                clear hW
                (refine AnyS.take (i := 0) rfl (by kernel_rfl) (by kernel_rfl) (by kernel_rfl) (by rfl) (fun _ _ _ h => h) (by rfl) (by intro w; go_simp; with_reducible rfl) hU (fun hU => ?_); (try simp only [Act.put, List.setIfInBounds_toArray, List.set_cons_zero, List.set_cons_succ]); refine AnyS.take (i := 1) rfl (by kernel_rfl) (by kernel_rfl) (by kernel_rfl) (by rfl) (fun _ _ _ h => h) (by rfl) (by intro w; go_simp; with_reducible rfl) hU (fun hU => ?_); (try simp only [Act.put, List.setIfInBounds_toArray, List.set_cons_zero, List.set_cons_succ]))
                (refine AnyS.takeS (i := 2) rfl (by kernel_rfl) (by kernel_rfl) (by kernel_rfl) (by rfl) (by kernel_rfl) (by kernel_rfl) (fun _ _ _ h => h) (by rfl) (by intro W hSw; have h1 := hSw.2.2.1; clear hSw; go_simp; with_reducible rfl) hU (fun hU => ?_); (try simp only [Act.put, List.setIfInBounds_toArray, List.set_cons_zero, List.set_cons_succ]))
                (refine AnyS.take (i := 3) rfl (by kernel_rfl) (by kernel_rfl) (by kernel_rfl) (by rfl) (fun _ _ _ h => h) (by rfl) (by intro w; go_simp; with_reducible rfl) hU (fun hU => ?_); (try simp only [Act.put, List.setIfInBounds_toArray, List.set_cons_zero, List.set_cons_succ]); refine AnyS.take (i := 4) rfl (by kernel_rfl) (by kernel_rfl) (by kernel_rfl) (by rfl) (fun _ _ _ h => h) (by rfl) (by intro w; go_simp; with_reducible rfl) hU (fun hU => ?_); (try simp only [Act.put, List.setIfInBounds_toArray, List.set_cons_zero, List.set_cons_succ]))
                (refine AnyS.takeS (i := 5) rfl (by kernel_rfl) (by kernel_rfl) (by kernel_rfl) (by rfl) (by kernel_rfl) (by kernel_rfl) (fun _ _ _ h => h) (by rfl) (by intro W hSw; have h1 := hSw.2.2.2; clear hSw; go_simp; with_reducible rfl) hU (fun hU => ?_); (try simp only [Act.put, List.setIfInBounds_toArray, List.set_cons_zero, List.set_cons_succ]))
                (refine AnyS.take (i := 6) rfl (by kernel_rfl) (by kernel_rfl) (by kernel_rfl) (by rfl) (fun _ _ _ h => h) (by rfl) (by intro w; go_simp; with_reducible rfl) hU (fun hU => ?_); (try simp only [Act.put, List.setIfInBounds_toArray, List.set_cons_zero, List.set_cons_succ]); refine AnyS.take (i := 7) rfl (by kernel_rfl) (by kernel_rfl) (by kernel_rfl) (by rfl) (fun _ _ _ h => h) (by rfl) (by intro w; go_simp; with_reducible rfl) hU (fun hU => ?_); (try simp only [Act.put, List.setIfInBounds_toArray, List.set_cons_zero, List.set_cons_succ]))
                (refine AnyS.takeS (i := 8) rfl (by kernel_rfl) (by kernel_rfl) (by kernel_rfl) (by rfl) (by kernel_rfl) (by kernel_rfl) (fun _ _ _ h => h) (by rfl) (fun W hW => run_ld Try.underlying28 rfl HIM.out (.tmp 1) rfl rfl hW.1) hU (fun hU => ?_); (try simp only [Act.put, List.setIfInBounds_toArray, List.set_cons_zero, List.set_cons_succ]))
                (refine AnyS.takeS (i := 9) rfl (by kernel_rfl) (by kernel_rfl) (by kernel_rfl) (by rfl) (by kernel_rfl) (by kernel_rfl) (fun _ _ _ h => h) (by rfl) (fun W hW => run_ld Try.underlying78 rfl HIC.out (.tmp 3) rfl rfl hW.2.1) hU (fun hU => ?_); (try simp only [Act.put, List.setIfInBounds_toArray, List.set_cons_zero, List.set_cons_succ]))
                (refine AnyS.take (i := 10) rfl (by kernel_rfl) (by kernel_rfl) (by kernel_rfl) (by rfl) (fun _ _ _ h => h) (by rfl) (by intro w; go_simp; with_reducible rfl) hU (fun hU => ?_); (try simp only [Act.put, List.setIfInBounds_toArray, List.set_cons_zero, List.set_cons_succ]); refine AnyS.take (i := 11) rfl (by kernel_rfl) (by kernel_rfl) (by kernel_rfl) (by rfl) (fun _ _ _ h => h) (by rfl) (by intro w; go_simp; with_reducible rfl) hU (fun hU => ?_); (try simp only [Act.put, List.setIfInBounds_toArray, List.set_cons_zero, List.set_cons_succ]))
                refine AnyS.branch (rs := [12]) (by kernel_rfl) (by simp) (AllS.cons rfl (fun K hK => ?_) AllS.nil)
                go_simp
                refine (HSM.out _).mono ?_
                rintro e w4 ⟨rfl, hb4⟩
                have hB4 := hBW.trans (hb4.mono hBW.size)
                refine hK.out _ _ (.inl (HS.out _ hB4)) (fun hU => ?_)
                clear hK K hBW
                (try simp only [Act.put, List.setIfInBounds_toArray, List.set_cons_zero, List.set_cons_succ])
                have hM4 := hM.call hB4
                clear hM hb4
                cases hs : sameB m (cV m k) q r
                · (refine AnyS.take (i := 13) rfl (by kernel_rfl) (by kernel_rfl) (by kernel_rfl) (by rfl) (fun _ _ _ h => h) (by rfl) (by intro w; go_simp; with_reducible rfl) hU (fun hU => ?_); (try simp only [Act.put, List.setIfInBounds_toArray, List.set_cons_zero, List.set_cons_succ]))
                  refine AnyS.done (by kernel_rfl) ?_ _
                  have HX := Lib.hid (HNX.out (by rw [HOK.out, hs]; simp))
                  clear hU hB4 hs
                  go_wp2_with fail
                  go_roundw
                  case rel => exact ⟨r + 1, by omega, by go_num, hM4, HX.out⟩
                  case measure => simp [intOf] <;> omega
                · (refine AnyS.take (i := 13) rfl (by kernel_rfl) (by kernel_rfl) (by kernel_rfl) (by rfl) (fun _ _ _ h => h) (by rfl) (by intro w; go_simp; with_reducible rfl) hU (fun hU => ?_); (try simp only [Act.put, List.setIfInBounds_toArray, List.set_cons_zero, List.set_cons_succ]))
                  refine AnyS.done (by kernel_rfl) ?_ _
                  have hokr : okR m k q r = true := by rw [HOK.out, hs]; simp
                  have hcr : updN (nV m k q) q q r = r := by
                    simp only [updN, nV]
                    rw [if_neg (by omega), if_pos hrlt]
                    exact cls_fix hok hwf hqlt hrlt hokr HN.out
                  have c3 := (hM4.at 0 rfl).cell' (nvs_get (updN (nV m k q) q q) (q := r) (by omega))
                  rw [hcr] at c3
                  have c4 := (hM4.at 0 rfl).cell' (nvs_get (updN (nV m k q) q q) (q := q) (by omega))
                  have f4 := (hM4.at 0 rfl).free q
                  have hM5 := hM4.setCell 0 rfl q (.int .i64 (r : Int))
                  simp only [List.set_cons_zero] at hM5
                  rw [nvs_set _ _ (by omega), upd_upd, nV_upd m k q r (cls_found hok hwf hqlt hrlt hokr HN.out)] at hM5
                  have HM5 := Lib.hid hM5
                  clear hU hB4 hs hokr hcr hM4 hM5
                  generalize updN (nV m k q) q q q = old2 at *
                  go_wp2_with fail
                  go_roundw
                  case rel => exact ⟨q + 1, by omega, by go_num, HM5.out⟩
                  case measure => simp [intOf] <;> omega
              · have HX := Lib.hid (HNX.out (by rw [HOK.out]; simp [e]))
                have e' : ((a : Int) == (b : Int)) = false := by simp; omega
                clear ha hb e
                go_wp2_with fail
                go_quiet (fail)
                go_wp2_with fail
                go_roundw
                case rel => exact ⟨r + 1, by omega, by go_num, hM.drewN _, HX.out⟩
                case measure => simp [intOf] <;> omega
            · have hr' : r = q := by omega
              subst hr'
              rw [nV_upd m k r r (cls_none hok hwf hqlt HN.out)] at hM
              go_wp2_with fail
              go_roundw
              case rel => exact ⟨r + 1, by omega, by go_num, hM⟩
              case measure => simp [intOf] <;> omega
        · have hq' : q = m.s := by omega
          subst hq'
          rw [nV_all] at hM
          have hr0 := (hM.at 0 rfl).all
          have ht0 := (hM.at 1 rfl).there 0 (nvs 16 (cV m (k + 1))).length (by simp [nvs_len])
          have hM5 := (hM.setAll 1 rfl (vs := nvs 16 (cV m (k + 1))) (by simp [nvs_len])).sub (List.sublist_cons_self _ _)
          have HM5 := Lib.hid hM5
          have HIC := Lib.hid (nvs16_info (cV m (k + 1)))
          have H1 := Lib.hid (nvs_one 16 (cV m (k + 1)))
          clear hM hM5
          obtain ⟨C, hC⟩ : ∃ C, C = nvs 16 (cV m (k + 1)) := ⟨_, rfl⟩
          rw [← hC] at hr0 ht0 HIC H1 HM5
          have HC := Lib.hid hC
          clear hC
          go_wp2_with (first | ((with_reducible refine ld_row ?_ 78 (.tmp 5) ?_ E 0 ?_ C (.array 16 2) hr0 Try.underlying78 ?_ HIC.out ?_); exact rfl; exact rfl; exact rfl; exact rfl) | ((with_reducible refine st_row ?_ 78 (.tmp 3) (.tmp 49) ?_ (w.heap.size + 1 + 1) 0 C ?_ ?_ ht0 HIC.out H1.out ?_); exact rfl; exact rfl; exact rfl; exact rfl))
          go_roundw
          case rel => exact ⟨k + 1, by omega, by go_num, by rw [← HC.out]; exact HM5.out⟩
          case measure => simp [intOf] <;> omega
    · have hk' : k = m.s + 1 := by omega
      subst hk'
      have HF : Hid (nvs 16 (cV m (m.s + 1)) = nvs 16 (fun q => if q < m.s then m.tbl.fin q else 0)) := nvs_congr fun q _ => by
        simp only [cV]
        by_cases h : q < m.s
        · rw [if_pos h, if_pos h]; exact m.tbl.fin_late (m.tbl_wf hok hwf) hok.s_pos (by show m.s ≤ _; omega) h
        · rw [if_neg h, if_neg h]
      rw [HF.out] at hM
      clear HF
      have hr0 := (hM.at 0 rfl).all
      have ht0 := (hM.at 1 rfl).there 0 (nvs 16 (fun q => if q < m.s then m.tbl.fin q else 0)).length (by simp [nvs_len])
      have hM5 := hM.setAll 1 rfl (vs := nvs 16 (fun q => if q < m.s then m.tbl.fin q else 0)) (by simp [nvs_len])
      have HIC := Lib.hid (nvs16_info (fun q => if q < m.s then m.tbl.fin q else 0))
      have H1 := Lib.hid (nvs_one 16 (fun q => if q < m.s then m.tbl.fin q else 0))
      have hres := hM5.at 1 rfl
      have hbl := hM5.below
      clear hM hM5
      obtain ⟨C, hC⟩ : ∃ C, C = nvs 16 (fun q => if q < m.s then m.tbl.fin q else 0) := ⟨_, rfl⟩
      rw [← hC] at hr0 ht0 HIC H1 hres hbl
      have HC := Lib.hid hC
      clear hC
      go_wp2_with (first | ((with_reducible refine ld_row ?_ 78 (.tmp 3) ?_ (w.heap.size + 1 + 1) 0 ?_ C (.array 16 2) hr0 Try.underlying78 ?_ HIC.out ?_); exact rfl; exact rfl; exact rfl; exact rfl) | ((with_reducible refine st_row ?_ 78 (.tmp 2) (.tmp 50) ?_ (w.heap.size + 1) 0 C ?_ ?_ ht0 HIC.out H1.out ?_); exact rfl; exact rfl; exact rfl; exact rfl))
      exact bodyPost_ret (v := .agg C.toArray) (results_cell_row Try.results96 _ _ (w.heap.size + 1) 78 C.toArray (0, 0) (.array 16 2) rfl hres Try.underlying78 rfl (HIC.out.trans (by rw [List.size_toArray]))) rfl ⟨congrArg (fun x : List Value => Ending.returned (.agg x.toArray)) HC.out, hbl⟩
end Go.Proofs.Ythgkkaifdlkciaa

/- What the laws do with slices of numbers and machines that come in: copies, sizes, comparisons. -/
namespace Go.Proofs.Ythgkkaifdlkciaa
open Go.RowKit
set_option linter.unusedVariables false
set_option linter.unusedSimpArgs false

/-- 'make([]int64, n)' -/
theorem mkI (n : Nat) (hn : n ≤ 2000000) (u : World) : (Instr.makeSlice 31 (.int .i64 (n : Int)) (.int .i64 (n : Int))).run Try.prog u =
    .ok (.slice (some ⟨u.heap.size, 0, none⟩) n n) (u.alloc (.cells (madeCells #[.int .i64 0] n) 2)) := by
  obtain ⟨i0, hi, hz0, hz1, hz2⟩ := info_parts Try.info2
  have h := run_make (P := Try.prog) u 31 2 i0 (.int .i64 0) Try.underlying31 hi hz0 .i64 .i64 (n : Int) (n : Int) (by omega) (Int.le_refl _) (by rw [hz2]; omega) (by omega)
  simpa [hz1, Value.cells] using h
theorem madeI (n : Nat) : (madeCells #[Value.int .i64 0] n).toList = i64s (List.replicate n 0) := by
  simp only [madeCells, Array.toList_map, Array.toList_range, i64s]
  apply List.ext_getElem?
  intro i
  by_cases hi : i < n <;> simp [hi, Nat.mod_one]

end Go.Proofs.Ythgkkaifdlkciaa
