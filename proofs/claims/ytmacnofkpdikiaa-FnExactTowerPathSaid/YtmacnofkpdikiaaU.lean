/- The reference's trivial states. -/
import Derived.Test.YtmacnofkpdikiaaO
import Derived.Test.YtmacnofkpdikiaaT
namespace Go.Proofs.Ytmacnofkpdikiaa
open Go.RowKit
set_option linter.unusedVariables false
set_option linter.unusedSimpArgs false

/-- sixteen bools -/
def bls (tv : Nat → Bool) : List Value := (List.range 16).map fun q => .bool (tv q)
theorem bls_get (tv : Nat → Bool) {q : Nat} (h : q < 16) : (bls tv)[q]? = some (.bool (tv q)) := by simp [bls, h]
theorem bls_set (tv : Nat → Bool) {j : Nat} (b : Bool) (h : j < 16) : (bls tv).set j (.bool b) = bls (upd tv j b) := by
  apply List.ext_getElem?
  intro i
  by_cases hi : i < 16
  · rw [bls_get _ hi]
    by_cases e : i = j
    · subst e; rw [List.getElem?_set_self (by simpa [bls] using h)]; simp [upd]
    · rw [List.getElem?_set_ne (by omega), bls_get _ hi]; simp [upd, e]
  · rw [List.getElem?_eq_none (by simp [bls]; omega), List.getElem?_eq_none (by simp [bls]; omega)]

/-- the memory of the reference's rounds -/
structure TW (w wr : World) (m : Mch) (tv : Nat → Bool) : Prop where
  mach : MAt wr w.heap.size 0 m
  res : Blk wr (w.heap.size + 1) (bls fun _ => false) 89
  out : Blk wr (w.heap.size + 1 + 1) (bls tv) 89
  below : Below w.heap.size w wr

theorem TW.l {w wr : World} {m : Mch} {tv : Nat → Bool} (h : TW w wr m tv) (hok : m.Ok) : wr.cell? ⟨w.heap.size, 0, none⟩ = some (.int .i64 (m.l : Int)) := by rw [← hok.L_eq]; exact h.mach.l
theorem TW.s {w wr : World} {m : Mch} {tv : Nat → Bool} (h : TW w wr m tv) (hok : m.Ok) : wr.cell? ⟨w.heap.size, 1, none⟩ = some (.int .i64 (m.s : Int)) := by rw [← hok.S_eq]; exact h.mach.s
theorem TW.get {w wr : World} {m : Mch} {tv : Nat → Bool} (h : TW w wr m tv) {q : Nat} (hq : q < 16) : wr.cell? ⟨w.heap.size + 1 + 1, q, none⟩ = some (.bool (tv q)) := h.out.cell' (bls_get tv hq)
theorem TW.set {w wr : World} {m : Mch} {tv : Nat → Bool} (h : TW w wr m tv) {j : Nat} (hj : j < 16) (b : Bool) : TW w (wr.setCell ⟨w.heap.size + 1 + 1, j, none⟩ (.bool b)) m (upd tv j b) :=
  ⟨h.mach.setCell (by simp only; omega) _, h.res.setOther (by simp only; omega) _, by rw [← bls_set tv b hj]; exact h.out.setCell _ _, h.below.setCell (by simp only; omega) _⟩

set_option maxRecDepth 100000 in
set_option maxHeartbeats 4000000 in
theorem l01Trivial_any (m : Mch) (hwf : m.Wf) (hok : m.Ok) (w : World) :
    Calls Try.prog 73 #[.agg m.cells.toArray] w (Ret (.agg (bls (trivB m)).toArray) w) := by
  have hm := MAt.boxed w m 44
  have hb0 := boxedBelow w m.cells.toArray 44
  have hs16 := hok.s_le
  have hl3 := hok.l_le
  go_enter Try.func73, Try.ntmps73
  go_wp2
  go_loopw [4] (fun i wr => ∃ k : Nat, k ≤ m.s ∧ i = .int .i64 k ∧ ∃ tv, TW w wr m tv ∧ Hid ((∀ q, q < k → tv q = true) ∧ ∀ q, k ≤ q → tv q = false)) (fun i _ => m.s - (intOf i).toNat)
  case atStart =>
    refine ⟨0, Nat.zero_le _, rfl, fun _ => false, ⟨(hm.alloc (by simp) _).alloc (by simp; omega) _, ?_, ?_, (hb0.alloc (by simp) _).alloc (by simp; omega) _⟩, fun q hq => by omega, fun _ _ => rfl⟩
    · have := (Blk.new (w.alloc (.cells m.cells.toArray 44)) (bls fun _ => false).toArray 89).alloc (.cells (bls fun _ => false).toArray 89)
      rw [show (w.alloc (.cells m.cells.toArray 44)).heap.size = w.heap.size + 1 by simp] at this
      exact this
    · have := Blk.new ((w.alloc (.cells m.cells.toArray 44)).alloc (.cells (bls fun _ => false).toArray 89)) (bls fun _ => false).toArray 89
      rw [show ((w.alloc (.cells m.cells.toArray 44)).alloc (.cells (bls fun _ => false).toArray 89)).heap.size = w.heap.size + 1 + 1 by simp] at this
      exact this
  case round =>
    obtain ⟨k, hk, rfl, tv, hT, hI⟩ := hrel
    have hcs := hT.s hok
    by_cases hlt : k < m.s
    · have hck := hT.get (q := k) (by omega)
      have hfk := hT.out.free k
      have i1 : (k : Int) < 16 := by omega
      have i2 : (0 : Int) ≤ (k : Int) := by omega
      go_wp2
      go_roundw
      case rel =>
        exact ⟨k + 1, by omega, by go_num, _, hT.set (by omega) true, fun q hq => by (simp only [upd]; split; rfl; exact hI.out.1 q (by omega)), fun q hq => by (simp only [upd]; rw [if_neg (by omega)]; exact hI.out.2 q (by omega))⟩
      case measure => simp [intOf]; omega
    · have hk' : k = m.s := by omega
      subst hk'
      have hinv : TInv m tv 0 := TInv.start hI.out.1 hI.out.2
      have HI := Lib.hid hinv
      clear hinv
      go_wp2
      obtain ⟨wo, rfl⟩ : ∃ wo : World, wo = wr := ⟨_, rfl⟩
      go_loopw [5] (fun i wr => ∃ r : Nat, r ≤ m.s + 1 ∧ i = .int .i64 r ∧ ∃ tv, TW w wr m tv ∧ Hid (TInv m tv r)) (fun i _ => m.s + 1 - (intOf i).toNat)
      case atStart => exact ⟨0, Nat.zero_le _, rfl, tv, hT, HI⟩
      case round =>
        clear hT HI hcs
        obtain ⟨r, hr, rfl, tv, hT, HI⟩ := hrel
        have hcs := hT.s hok
        by_cases hrlt : r ≤ m.s
        · go_wp2
          obtain ⟨wo, rfl⟩ : ∃ wo : World, wo = wr := ⟨_, rfl⟩
          go_loopw [6] (fun i wr => ∃ j : Nat, j ≤ m.s ∧ i = .int .i64 j ∧ ∃ tv, TW w wr m tv ∧ Hid (TInv2 m tv r j)) (fun i _ => m.s - (intOf i).toNat)
          case atStart => exact ⟨0, Nat.zero_le _, rfl, tv, hT, HI.out.begin⟩
          case round =>
            clear hT HI hcs
            obtain ⟨j, hj, rfl, tv, hT, HI⟩ := hrel
            have hcs := hT.s hok
            by_cases hjlt : j < m.s
            · go_wp2
              obtain ⟨wo, rfl⟩ : ∃ wo : World, wo = wr := ⟨_, rfl⟩
              go_loopw [7] (fun i wr => ∃ x : Nat, x ≤ m.l ∧ i = .int .i64 x ∧ ∃ tv, TW w wr m tv ∧ Hid (TInv3 m tv r j x)) (fun i _ => m.l - (intOf i).toNat)
              case atStart => exact ⟨0, Nat.zero_le _, rfl, tv, hT, HI.out.begin⟩
              case round =>
                clear hT HI hcs
                obtain ⟨x, hx, rfl, tv, hT, HI⟩ := hrel
                have hcl := hT.l hok
                by_cases hxlt : x < m.l
                · have hcj := hT.get (q := j) (by omega)
                  have hfj := hT.out.free j
                  have e3 := hT.mach.oo hwf (q := j) (x := x) (by omega) (by omega)
                  have e2 := hT.mach.nn hwf (q := j) (x := x) (by omega) (by omega)
                  rw [hok.o_eq hwf hjlt hxlt] at e3
                  rw [hok.n_eq hwf hjlt hxlt] at e2
                  have hz16 : m.nn j x < 16 := by have := hok.nn_lt hwf hjlt hxlt; omega
                  have hy3 : m.on j x < 3 := by have := hok.on_lt hwf hjlt hxlt; omega
                  have hcn := hT.get hz16
                  have HSTEP : Hid (∀ b, b = (tv j && (m.on j x == x) && tv (m.nn j x)) → TInv3 m (upd tv j b) r j (x + 1)) := fun b hb => HI.out.step hok hwf hjlt hxlt hb
                  have HSET : Hid (∀ b, TW w (wr.setCell ⟨w.heap.size + 1 + 1, j, none⟩ (.bool b)) m (upd tv j b)) := fun b => hT.set (by omega) b
                  have i1 : (j : Int) < 16 := by omega
                  have i2 : (0 : Int) ≤ (j : Int) := by omega
                  have i3 : (x : Int) < 3 := by omega
                  have i4 : (0 : Int) ≤ (x : Int) := by omega
                  generalize hY : m.on j x = y at *
                  generalize hZ : m.nn j x = z at *
                  have i5 : (z : Int) < 16 := by omega
                  clear hY hZ
                  cases h0 : tv j
                  · rw [h0] at hcj HSTEP
                    clear h0
                    go_wp2
                    go_roundw
                    case rel => exact ⟨x + 1, by omega, by go_num, _, HSET.out false, HSTEP.out false (by simp)⟩
                    case measure => simp [intOf]; omega
                  · rw [h0] at hcj HSTEP
                    clear h0
                    by_cases h1 : y = x
                    · subst h1
                      cases h2 : tv z
                      · rw [h2] at hcn HSTEP
                        clear h2
                        go_wp2
                        go_roundw
                        case rel => exact ⟨y + 1, by omega, by go_num, _, HSET.out false, HSTEP.out false (by simp)⟩
                        case measure => simp [intOf]; omega
                      · rw [h2] at hcn HSTEP
                        clear h2
                        go_wp2
                        go_roundw
                        case rel => exact ⟨y + 1, by omega, by go_num, _, HSET.out true, HSTEP.out true (by simp)⟩
                        case measure => simp [intOf]; omega
                    · have h1' : (y == x) = false := by simpa using h1
                      rw [h1'] at HSTEP
                      have h1i : ((y : Int) == (x : Int)) = false := by simp; omega
                      clear h1 h1'
                      go_wp2
                      go_roundw
                      case rel => exact ⟨x + 1, by omega, by go_num, _, HSET.out false, HSTEP.out false (by simp)⟩
                      case measure => simp [intOf]; omega
                · have hx' : x = m.l := by omega
                  have HF : Hid (TInv2 m tv r (j + 1)) := (hx' ▸ HI.out).fin
                  clear hx'
                  go_wp2
                  go_roundw
                  case rel => exact ⟨j + 1, by omega, by go_num, tv, hT, HF⟩
                  case measure => simp [intOf]; omega
            · have hj' : j = m.s := by omega
              have HF : Hid (TInv m tv (r + 1)) := (hj' ▸ HI.out).fin
              clear hj'
              go_wp2
              go_roundw
              case rel => exact ⟨r + 1, by omega, by go_num, tv, hT, HF⟩
              case measure => simp [intOf]; omega
        · have HF := Lib.hid (HI.out.fin hok hwf (by omega : m.s ≤ r))
          rw [HF.out] at hT
          have hall := hT.out.all
          have hth := hT.res.there 0 (bls (trivB m)).length (by simp [bls])
          have hi : (Try.prog.info? 89).map (·.size) = some (bls (trivB m)).length := by rw [show (bls (trivB m)).length = 16 by simp [bls]]; kernel_rfl
          have HI' := Lib.hid hi
          have H1 : Hid (∀ v ∈ bls (trivB m), v.oneCell' = true) := fun v hv => by simp only [bls, List.mem_map] at hv; obtain ⟨z, _, rfl⟩ := hv; rfl
          have hres := hT.res.setAll (vs := bls (trivB m)) (by simp [bls])
          have hbb := below_setCells (b := w.heap.size + 1) (by omega) (bls (trivB m)) hT.below 0
          clear hi
          go_wp2_with (first | ((with_reducible refine ld_row ?_ 89 (.tmp 3) ?_ (w.heap.size + 1 + 1) 0 ?_ (bls (trivB m)) (.array 16 4) hall Try.underlying89 ?_ HI'.out ?_); exact rfl; exact rfl; exact rfl; exact rfl) | ((with_reducible refine st_row ?_ 89 (.tmp 2) (.tmp 61) ?_ (w.heap.size + 1) 0 (bls (trivB m)) ?_ ?_ hth HI'.out H1.out ?_); exact rfl; exact rfl; exact rfl; exact rfl))
          exact bodyPost_ret (v := .agg (bls (trivB m)).toArray) (results_cell_row Try.results73 _ _ (w.heap.size + 1) 89 (bls (trivB m)).toArray (0, 0) (.array 16 4) rfl hres Try.underlying89 rfl (HI'.out.trans (by rw [List.size_toArray]))) rfl ⟨rfl, hbb⟩
end Go.Proofs.Ytmacnofkpdikiaa
