import Derived.Test.YthgkkaifdlkciaaYTile02
import Derived.Test.YthgkkaifdlkciaaYTile01
import Derived.Test.YthgkkaifdlkciaaYTile05
import Derived.Test.YthgkkaifdlkciaaYTile03
import Derived.Test.YthgkkaifdlkciaaYTile04
import Derived.Deep.LoopGhost
import Derived.Maps.Own
import Derived.Maps.Views
import Derived.StringKeys
import Derived.Carry
import Derived.StillTailTactics
import Derived.Deep.Matrix
import Derived.Deep.Strs
import Derived.Test.YthgkkaifdlkciaaChecked
import Derived.JoinedOf
import Derived.OpenShut
import Derived.Shelf.SortM.Plain
/- The reference's trivial states. -/
namespace Go.Proofs.Ythgkkaifdlkciaa
open Go.RowKit
set_option linter.unusedVariables false
set_option linter.unusedSimpArgs false

/-- sixteen bools -/
def bls (tv : Nat → Bool) : List Value := (List.range 16).map fun q => .bool (tv q)
theorem bls_get (tv : Nat → Bool) {q : Nat} (h : q < 16) : (bls tv)[q]? = some (.bool (tv q)) := by simp [bls, h]
theorem bls_set (tv : Nat → Bool) {j : Nat} (b : Bool) (h : j < 16) : (bls tv).set j (.bool b) = bls (upd tv j b) := by
  apply List.ext_getElem?
  intro i
  by_cases hi : i < 16
  · rw [bls_get _ hi]
    by_cases e : i = j
    · subst e; rw [List.getElem?_set_self (by simpa [bls] using h)]; simp [upd]
    · rw [List.getElem?_set_ne (by omega), bls_get _ hi]; simp [upd, e]
  · rw [List.getElem?_eq_none (by simp [bls]; omega), List.getElem?_eq_none (by simp [bls]; omega)]

/-- the memory of the reference's rounds -/
structure TW (w wr : World) (m : Mch) (tv : Nat → Bool) : Prop where
  mach : MAt wr w.heap.size 0 m
  res : Blk wr (w.heap.size + 1) (bls fun _ => false) 61
  out : Blk wr (w.heap.size + 1 + 1) (bls tv) 61
  below : Below w.heap.size w wr

theorem TW.l {w wr : World} {m : Mch} {tv : Nat → Bool} (h : TW w wr m tv) (hok : m.Ok) : wr.cell? ⟨w.heap.size, 0, none⟩ = some (.int .i64 (m.l : Int)) := by rw [← hok.L_eq]; exact h.mach.l
theorem TW.s {w wr : World} {m : Mch} {tv : Nat → Bool} (h : TW w wr m tv) (hok : m.Ok) : wr.cell? ⟨w.heap.size, 1, none⟩ = some (.int .i64 (m.s : Int)) := by rw [← hok.S_eq]; exact h.mach.s
theorem TW.get {w wr : World} {m : Mch} {tv : Nat → Bool} (h : TW w wr m tv) {q : Nat} (hq : q < 16) : wr.cell? ⟨w.heap.size + 1 + 1, q, none⟩ = some (.bool (tv q)) := h.out.cell' (bls_get tv hq)
theorem TW.set {w wr : World} {m : Mch} {tv : Nat → Bool} (h : TW w wr m tv) {j : Nat} (hj : j < 16) (b : Bool) : TW w (wr.setCell ⟨w.heap.size + 1 + 1, j, none⟩ (.bool b)) m (upd tv j b) :=
  ⟨h.mach.setCell (by simp only; omega) _, h.res.setOther (by simp only; omega) _, by rw [← bls_set tv b hj]; exact h.out.setCell _ _, h.below.setCell (by simp only; omega) _⟩

set_option maxRecDepth 100000 in
set_option maxHeartbeats 4000000 in
theorem l01Trivial_any (m : Mch) (hwf : m.Wf) (hok : m.Ok) (w : World) :
    Calls Try.prog 57 #[.agg m.cells.toArray] w (Ret (.agg (bls (trivB m)).toArray) w) := by
  have hm := MAt.boxed w m 28
  have hb0 := boxedBelow w m.cells.toArray 28
  have hs16 := hok.s_le
  have hl3 := hok.l_le
  go_enter Try.func57, Try.ntmps57
  go_wp2
  go_loopw [4] (fun i wr => ∃ k : Nat, k ≤ m.s ∧ i = .int .i64 k ∧ ∃ tv, TW w wr m tv ∧ Hid ((∀ q, q < k → tv q = true) ∧ ∀ q, k ≤ q → tv q = false)) (fun i _ => m.s - (intOf i).toNat)
  case atStart =>
    refine ⟨0, Nat.zero_le _, rfl, fun _ => false, ⟨(hm.alloc (by simp) _).alloc (by simp; omega) _, ?_, ?_, (hb0.alloc (by simp) _).alloc (by simp; omega) _⟩, fun q hq => by omega, fun _ _ => rfl⟩
    · have := (Blk.new (w.alloc (.cells m.cells.toArray 28)) (bls fun _ => false).toArray 61).alloc (.cells (bls fun _ => false).toArray 61)
      rw [show (w.alloc (.cells m.cells.toArray 28)).heap.size = w.heap.size + 1 by simp] at this
      exact this
    · have := Blk.new ((w.alloc (.cells m.cells.toArray 28)).alloc (.cells (bls fun _ => false).toArray 61)) (bls fun _ => false).toArray 61
      rw [show ((w.alloc (.cells m.cells.toArray 28)).alloc (.cells (bls fun _ => false).toArray 61)).heap.size = w.heap.size + 1 + 1 by simp] at this
      exact this
  case round =>
    obtain ⟨k, hk, rfl, tv, hT, hI⟩ := hrel
    have hcs := hT.s hok
    by_cases hlt : k < m.s
    · have hck := hT.get (q := k) (by omega)
      have hfk := hT.out.free k
      have i1 : (k : Int) < 16 := by omega
      have i2 : (0 : Int) ≤ (k : Int) := by omega
      go_wp2
      go_roundw
      case rel =>
        exact ⟨k + 1, by omega, by go_num, _, hT.set (by omega) true, fun q hq => by (simp only [upd]; split; rfl; exact hI.out.1 q (by omega)), fun q hq => by (simp only [upd]; rw [if_neg (by omega)]; exact hI.out.2 q (by omega))⟩
      case measure => simp [intOf]; omega
    · have hk' : k = m.s := by omega
      subst hk'
      have hinv : TInv m tv 0 := TInv.start hI.out.1 hI.out.2
      have HI := Lib.hid hinv
      clear hinv
      go_wp2
      obtain ⟨wo, rfl⟩ : ∃ wo : World, wo = wr := ⟨_, rfl⟩
      go_loopw [5] (fun i wr => ∃ r : Nat, r ≤ m.s + 1 ∧ i = .int .i64 r ∧ ∃ tv, TW w wr m tv ∧ Hid (TInv m tv r)) (fun i _ => m.s + 1 - (intOf i).toNat)
      case atStart => exact ⟨0, Nat.zero_le _, rfl, tv, hT, HI⟩
      case round =>
        clear hT HI hcs
        obtain ⟨r, hr, rfl, tv, hT, HI⟩ := hrel
        have hcs := hT.s hok
        by_cases hrlt : r ≤ m.s
        · go_wp2
          obtain ⟨wo, rfl⟩ : ∃ wo : World, wo = wr := ⟨_, rfl⟩
          go_loopw [6] (fun i wr => ∃ j : Nat, j ≤ m.s ∧ i = .int .i64 j ∧ ∃ tv, TW w wr m tv ∧ Hid (TInv2 m tv r j)) (fun i _ => m.s - (intOf i).toNat)
          case atStart => exact ⟨0, Nat.zero_le _, rfl, tv, hT, HI.out.begin⟩
          case round =>
            clear hT HI hcs
            obtain ⟨j, hj, rfl, tv, hT, HI⟩ := hrel
            have hcs := hT.s hok
            by_cases hjlt : j < m.s
            · go_wp2
              obtain ⟨wo, rfl⟩ : ∃ wo : World, wo = wr := ⟨_, rfl⟩
              go_loopw [7] (fun i wr => ∃ x : Nat, x ≤ m.l ∧ i = .int .i64 x ∧ ∃ tv, TW w wr m tv ∧ Hid (TInv3 m tv r j x)) (fun i _ => m.l - (intOf i).toNat)
              case atStart => exact ⟨0, Nat.zero_le _, rfl, tv, hT, HI.out.begin⟩
              case round =>
                clear hT HI hcs
                obtain ⟨x, hx, rfl, tv, hT, HI⟩ := hrel
                have hcl := hT.l hok
                by_cases hxlt : x < m.l
                · have hcj := hT.get (q := j) (by omega)
                  have hfj := hT.out.free j
                  have e3 := hT.mach.oo hwf (q := j) (x := x) (by omega) (by omega)
                  have e2 := hT.mach.nn hwf (q := j) (x := x) (by omega) (by omega)
                  rw [hok.o_eq hwf hjlt hxlt] at e3
                  rw [hok.n_eq hwf hjlt hxlt] at e2
                  have hz16 : m.nn j x < 16 := by have := hok.nn_lt hwf hjlt hxlt; omega
                  have hy3 : m.on j x < 3 := by have := hok.on_lt hwf hjlt hxlt; omega
                  have hcn := hT.get hz16
                  have HSTEP : Hid (∀ b, b = (tv j && (m.on j x == x) && tv (m.nn j x)) → TInv3 m (upd tv j b) r j (x + 1)) := fun b hb => HI.out.step hok hwf hjlt hxlt hb
                  have HSET : Hid (∀ b, TW w (wr.setCell ⟨w.heap.size + 1 + 1, j, none⟩ (.bool b)) m (upd tv j b)) := fun b => hT.set (by omega) b
                  have i1 : (j : Int) < 16 := by omega
                  have i2 : (0 : Int) ≤ (j : Int) := by omega
                  have i3 : (x : Int) < 3 := by omega
                  have i4 : (0 : Int) ≤ (x : Int) := by omega
                  generalize hY : m.on j x = y at *
                  generalize hZ : m.nn j x = z at *
                  have i5 : (z : Int) < 16 := by omega
                  clear hY hZ
                  cases h0 : tv j
                  · rw [h0] at hcj HSTEP
                    clear h0
                    go_wp2
                    go_roundw
                    case rel => exact ⟨x + 1, by omega, by go_num, _, HSET.out false, HSTEP.out false (by simp)⟩
                    case measure => simp [intOf]; omega
                  · rw [h0] at hcj HSTEP
                    clear h0
                    by_cases h1 : y = x
                    · subst h1
                      cases h2 : tv z
                      · rw [h2] at hcn HSTEP
                        clear h2
                        go_wp2
                        go_roundw
                        case rel => exact ⟨y + 1, by omega, by go_num, _, HSET.out false, HSTEP.out false (by simp)⟩
                        case measure => simp [intOf]; omega
                      · rw [h2] at hcn HSTEP
                        clear h2
                        go_wp2
                        go_roundw
                        case rel => exact ⟨y + 1, by omega, by go_num, _, HSET.out true, HSTEP.out true (by simp)⟩
                        case measure => simp [intOf]; omega
                    · have h1' : (y == x) = false := by simpa using h1
                      rw [h1'] at HSTEP
                      have h1i : ((y : Int) == (x : Int)) = false := by simp; omega
                      clear h1 h1'
                      go_wp2
                      go_roundw
                      case rel => exact ⟨x + 1, by omega, by go_num, _, HSET.out false, HSTEP.out false (by simp)⟩
                      case measure => simp [intOf]; omega
                · have hx' : x = m.l := by omega
                  have HF : Hid (TInv2 m tv r (j + 1)) := (hx' ▸ HI.out).fin
                  clear hx'
                  go_wp2
                  go_roundw
                  case rel => exact ⟨j + 1, by omega, by go_num, tv, hT, HF⟩
                  case measure => simp [intOf]; omega
            · have hj' : j = m.s := by omega
              have HF : Hid (TInv m tv (r + 1)) := (hj' ▸ HI.out).fin
              clear hj'
              go_wp2
              go_roundw
              case rel => exact ⟨r + 1, by omega, by go_num, tv, hT, HF⟩
              case measure => simp [intOf]; omega
        · have HF := Lib.hid (HI.out.fin hok hwf (by omega : m.s ≤ r))
          rw [HF.out] at hT
          have hall := hT.out.all
          have hth := hT.res.there 0 (bls (trivB m)).length (by simp [bls])
          have hi : (Try.prog.info? 61).map (·.size) = some (bls (trivB m)).length := by rw [show (bls (trivB m)).length = 16 by simp [bls]]; kernel_rfl
          have HI' := Lib.hid hi
          have H1 : Hid (∀ v ∈ bls (trivB m), v.oneCell' = true) := fun v hv => by simp only [bls, List.mem_map] at hv; obtain ⟨z, _, rfl⟩ := hv; rfl
          have hres := hT.res.setAll (vs := bls (trivB m)) (by simp [bls])
          have hbb := below_setCells (b := w.heap.size + 1) (by omega) (bls (trivB m)) hT.below 0
          clear hi
          go_wp2_with (first | ((with_reducible refine ld_row ?_ 61 (.tmp 3) ?_ (w.heap.size + 1 + 1) 0 ?_ (bls (trivB m)) (.array 16 4) hall Try.underlying61 ?_ HI'.out ?_); exact rfl; exact rfl; exact rfl; exact rfl) | ((with_reducible refine st_row ?_ 61 (.tmp 2) (.tmp 61) ?_ (w.heap.size + 1) 0 (bls (trivB m)) ?_ ?_ hth HI'.out H1.out ?_); exact rfl; exact rfl; exact rfl; exact rfl))
          exact bodyPost_ret (v := .agg (bls (trivB m)).toArray) (results_cell_row Try.results57 _ _ (w.heap.size + 1) 61 (bls (trivB m)).toArray (0, 0) (.array 16 4) rfl hres Try.underlying61 rfl (HI'.out.trans (by rw [List.size_toArray]))) rfl ⟨rfl, hbb⟩
end Go.Proofs.Ythgkkaifdlkciaa

/- ActiveAt and its reference. -/
namespace Go.Proofs.Ythgkkaifdlkciaa
open Go.RowKit
set_option linter.unusedVariables false
set_option linter.unusedSimpArgs false

end Go.Proofs.Ythgkkaifdlkciaa

/- The program's activities. -/
namespace Go.Proofs.Ythgkkaifdlkciaa
open Go.RowKit
set_option linter.unusedVariables false
set_option linter.unusedSimpArgs false

end Go.Proofs.Ythgkkaifdlkciaa

/- ActivityCounts of the program. -/
namespace Go.Proofs.Ythgkkaifdlkciaa
open Go.RowKit
set_option linter.unusedVariables false
set_option linter.unusedSimpArgs false

end Go.Proofs.Ythgkkaifdlkciaa

/- Words of a level that are such; BoundaryWords of both sides. -/
namespace Go.Proofs.Ythgkkaifdlkciaa
open Go.RowKit
set_option linter.unusedVariables false
set_option linter.unusedSimpArgs false

/-- a whole row read in an operation of a drawn region -/
theorem run_ld {b o T : Nat} {D : List Value} {d : TypeDesc} (hu : Try.prog.underlying T = some d) (hd : d.isRow = true) (hi : (Try.prog.info? T).map (·.size) = some D.length) (x : Operand) {a : Act} {op : Oper} (ho : op.op = .load T x) (hx : a.eval x = .pointer (some ⟨b, o, none⟩)) {w : World} (h : w.rangeAt b o D) :
    (execOp a.eval op).run Try.prog w = .ok (.value (.agg D.toArray)) w := by
  unfold execOp
  simp only [ho, hx, Instr.loadAt, Instr.sureAddr, Sem.run_bind, Sem.run_pure, Result.andThen_ok, run_loadVar_mid w b o T D d h hu hd hi]
theorem mach_info {m : Mch} (hwf : m.Wf) : (Try.prog.info? 28).map (·.size) = some m.cells.length := by rw [Mch.cells_length hwf]; kernel_rfl
theorem own_form {w : World} {B E n : Nat} {v : Value} {xs : List Value} (h : w.ownsRow B E 1 v n xs) (hn : 0 < n) : ∃ g c, v = .slice (some ⟨g, 0, none⟩) n c ∧ g < w.heap.size ∧ B ≤ g ∧ ∀ i u, xs[i]? = some u → w.cell? ⟨g, i, none⟩ = some u := by
  rcases h.2 with ⟨_, h0⟩ | ⟨g, cap, cur, rfl, h1, h2, h3, h4, h5, h6⟩
  · omega
  · refine ⟨g, cap, rfl, (Array.getElem?_eq_some_iff.1 h2).1, h1, fun i u hi => ?_⟩
    rw [cell_of_row w g i _ _ _ h2]
    have := h6 ▸ hi
    rw [List.getElem?_take] at this
    split at this
    · simpa using this
    · cases this

/-! BoundaryWords -/
end Go.Proofs.Ythgkkaifdlkciaa

/- Equal states of the reference: l01Same, l01Classes. -/
namespace Go.Proofs.Ythgkkaifdlkciaa
open Go.RowKit
set_option linter.unusedVariables false
set_option linter.unusedSimpArgs false

/-! the classes -/
end Go.Proofs.Ythgkkaifdlkciaa

/- What the laws do with slices of numbers and machines that come in: copies, sizes, comparisons. -/
namespace Go.Proofs.Ythgkkaifdlkciaa
open Go.RowKit
set_option linter.unusedVariables false
set_option linter.unusedSimpArgs false

end Go.Proofs.Ythgkkaifdlkciaa

/- Equal states of the program: (*table).least. -/
namespace Go.Proofs.Ythgkkaifdlkciaa
open Go.RowKit
set_option linter.unusedVariables false
set_option linter.unusedSimpArgs false

end Go.Proofs.Ythgkkaifdlkciaa

/- (*table).like, (*table).least. -/
namespace Go.Proofs.Ythgkkaifdlkciaa
open Go.RowKit
set_option linter.unusedVariables false
set_option linter.unusedSimpArgs false

end Go.Proofs.Ythgkkaifdlkciaa

/- (*table).least. -/
namespace Go.Proofs.Ythgkkaifdlkciaa
open Go.RowKit
set_option linter.unusedVariables false
set_option linter.unusedSimpArgs false

end Go.Proofs.Ythgkkaifdlkciaa

/- A group behind its pointer; newGroup. -/
namespace Go.Proofs.Ythgkkaifdlkciaa
open Go.RowKit
set_option linter.unusedVariables false
set_option linter.unusedSimpArgs false

/-! structs of several wide parts -/
end Go.Proofs.Ythgkkaifdlkciaa

/- What the laws ask of a result that is a slice of slices of numbers. -/
namespace Go.Proofs.Ythgkkaifdlkciaa
open Go.RowKit
set_option linter.unusedVariables false
set_option linter.unusedSimpArgs false

section
variable {B : Nat} {w0 w : World} {L : List (Nat × List Value × TypeId)} {G : List (Value × TypeId × List Value)}
/-- a call that writes into the row of the slice number i alone -/
theorem Mm.gcall (h : Mm B w0 w L G) (i : Nat) {v : Value} {E : TypeId} {xs ys : List Value} (hi : G[i]? = some (v, E, xs)) {w' : World} (hg : w.grownBy w' v.ownBlock) {n : Nat} (ho : w'.ownsRow B E 1 v n ys) (hn : n = ys.length) : Mm B w0 w' L (G.set i (v, E, ys)) := by
  subst hn
  have hv := mem_of_get hi
  have hblock : ∀ k, k < w.heap.size → v.ownBlock ≠ some k → w'.heap[k]? = w.heap[k]? := fun k hk hne => hg.block k hk (Ne.symm hne)
  have hsym : ∀ x y : Value × TypeId × List Value, (∀ b, x.1.ownBlock = some b → y.1.ownBlock ≠ some b) → ∀ b, y.1.ownBlock = some b → x.1.ownBlock ≠ some b := fun x y h b e e' => h b e' e
  have hmap : (G.set i (v, E, ys)).map (·.1) = G.map (·.1) := by
    rw [List.map_set]
    apply List.ext_getElem?
    intro k
    by_cases hk : k = i
    · subst hk
      have hlt : k < G.length := (List.getElem?_eq_some_iff.1 hi).1
      rw [List.getElem?_set_self (by simpa using hlt), List.getElem?_map, hi]; rfl
    · rw [List.getElem?_set_ne (Ne.symm hk)]
  refine ⟨?_, Nat.le_trans h.size hg.size, fun x hx => ⟨(h.blk x hx).1, (hblock _ (h.blk x hx).2.lt (h.sep _ hv x hx)).trans (h.blk x hx).2⟩, h.dist, fun x hx => ?_, fun x hx y hy => ?_, ?_⟩
  · refine ⟨hg.os.trans h.below.os, hg.tape.trans h.below.tape, hg.output.trans h.below.output, Nat.le_trans h.below.size hg.size, fun k hk => ?_⟩
    have hkw : k < w.heap.size := Nat.lt_of_lt_of_le hk h.size
    exact (hblock k hkw (fun e => by have := (World.ownsRow.lt (h.own _ hv) k e).1; omega)).trans (h.below.block k hk)
  · rcases mem_set_of hx with rfl | ⟨j, hj, hx⟩
    · exact ho
    · have hx' := h.own x (mem_of_get hx)
      refine ⟨hx'.1, ?_⟩
      rcases hx'.2 with hn | ⟨g', cap', cur, hv', h1, h2, rest⟩
      · exact .inl hn
      · have hlt := h.ownlt (mem_of_get hx) (by rw [hv']; rfl : x.1.ownBlock = some g')
        exact .inr ⟨g', cap', cur, hv', h1, (hblock g' hlt (pairwise_get hsym h.gdist hx hi hj g' (by rw [hv']; rfl))).trans h2, rest⟩
  · rcases mem_set_of hx with rfl | ⟨j, hj, hx⟩
    · exact h.sep _ hv y hy
    · exact h.sep x (mem_of_get hx) y hy
  · have hd : (G.map (·.1)).Pairwise (fun x y => ∀ b, x.ownBlock = some b → y.ownBlock ≠ some b) := List.pairwise_map.2 h.gdist
    rw [← hmap] at hd
    exact List.pairwise_map.1 hd
theorem Mm.permL (h : Mm B w0 w L G) {L' : List (Nat × List Value × TypeId)} (hp : L.Perm L') : Mm B w0 w L' G :=
  ⟨h.below, h.size, fun x hx => h.blk x (hp.mem_iff.2 hx), (hp.pairwise_iff (fun h => Ne.symm h)).1 h.dist, h.own, fun x hx y hy => h.sep x hx y (hp.mem_iff.2 hy), h.gdist⟩
theorem Mm.permG (h : Mm B w0 w L G) {G' : List (Value × TypeId × List Value)} (hp : G.Perm G') : Mm B w0 w L G' :=
  ⟨h.below, h.size, h.blk, h.dist, fun x hx => h.own x (hp.mem_iff.2 hx), fun x hx y hy => h.sep x (hp.mem_iff.2 hx) y hy, (hp.pairwise_iff (fun h b e e' => h b e' e)).1 h.gdist⟩
theorem Mm.subG (h : Mm B w0 w L G) {G' : List (Value × TypeId × List Value)} (hs : G'.Sublist G) : Mm B w0 w L G' :=
  ⟨h.below, h.size, h.blk, h.dist, fun x hx => h.own x (hs.subset hx), fun x hx y hy => h.sep x (hs.subset hx) y hy, h.gdist.sublist hs⟩
/-- the same memory, told from later on -/
theorem Mm.since (h : Mm B w0 w L G) : Mm B w w L G := ⟨Below.refl _ _, h.size, h.blk, h.dist, h.own, h.sep, h.gdist⟩
theorem Mm.less (h : Mm B w0 w L G) {C : Nat} (hC : C ≤ B) : Mm C w0 w L G :=
  ⟨h.below.mono hC, Nat.le_trans hC h.size, fun x hx => ⟨Nat.le_trans hC (h.blk x hx).1, (h.blk x hx).2⟩, h.dist, fun x hx => by
    have ho := h.own x hx
    refine ⟨ho.1, ?_⟩
    rcases ho.2 with hn | ⟨g, cap, cur, hv, h1, rest⟩
    · exact .inl hn
    · exact .inr ⟨g, cap, cur, hv, Nat.le_trans hC h1, rest⟩, h.sep, h.gdist⟩
end

/-- the rows of a slice of slices -/
def rowG (rv : List Value) (rows : List (List Int)) : List (Value × TypeId × List Value) := List.zipWith (fun r xs => (r, 2, i64s xs)) rv rows
/-- v is a slice of slices that reads as rows, all in memory from B on that is its own -/
def OwnII (w : World) (B : Nat) (v : Value) (rows : List (List Int)) : Prop := ∃ rv : List Value, rv.length = rows.length ∧ Mm B w w [] ((v, 31, rv) :: rowG rv rows)
/-- v is a slice of slices that reads as rows -/
def SlII (w : World) (v : Value) (rows : List (List Int)) : Prop := ∃ a c, v = .slice a rows.length c ∧ ∀ i, i < rows.length → ∃ b off, a = some ⟨b, off, none⟩ ∧ ∃ a' c', w.cell? ⟨b, off + i, none⟩ = some (.slice a' (rows[i]?.getD []).length c') ∧ IntsAt w a' (rows[i]?.getD [])
theorem SlII.below {w w' : World} {v : Value} {rows : List (List Int)} (h : SlII w v rows) (hb : Below w.heap.size w w') : SlII w' v rows := by
  obtain ⟨a, c, rfl, h⟩ := h
  refine ⟨a, c, rfl, fun i hi => ?_⟩
  obtain ⟨b, off, ha, a', c', hc, hI⟩ := h i hi
  exact ⟨b, off, ha, a', c', (hb.cell (p := ⟨b, off + i, none⟩) (World.block_lt_of_cell? w _ hc)).trans hc, hI.keep hb⟩
theorem rowG_get {rv : List Value} {rows : List (List Int)} (hl : rv.length = rows.length) {i : Nat} (hi : i < rows.length) : (rowG rv rows)[i]? = some (rv[i]?.getD undef, 2, i64s (rows[i]?.getD [])) := by
  simp only [rowG, List.getElem?_zipWith]
  rw [List.getElem?_eq_getElem (by omega : i < rv.length), List.getElem?_eq_getElem hi]
  rfl
theorem OwnI.of_row {w : World} {B : Nat} {v : Value} {xs : List Int} (h : w.ownsRow B 2 1 v (i64s xs).length (i64s xs)) : OwnI w B v xs := by simpa [OwnI, i64s] using h
theorem OwnII.row {w : World} {B : Nat} {v : Value} {rv : List Value} {rows : List (List Int)} (hl : rv.length = rows.length) (h : Mm B w w [] ((v, 31, rv) :: rowG rv rows)) {i : Nat} (hi : i < rows.length) : OwnI w B (rv[i]?.getD undef) (rows[i]?.getD []) :=
  OwnI.of_row (h.own _ (List.mem_cons_of_mem _ (mem_of_get (rowG_get hl hi))))
theorem OwnII.sl {w : World} {B : Nat} {v : Value} {rows : List (List Int)} (h : OwnII w B v rows) : SlII w v rows := by
  obtain ⟨rv, hl, hM⟩ := h
  have ho := hM.own _ (List.mem_cons_self ..)
  simp only at ho
  rcases ho.2 with ⟨rfl, h0⟩ | ⟨g, cap, cur, rfl, h1, hg, h2, h3, h4, h5⟩
  · exact ⟨none, 0, by rw [← hl, h0], fun i hi => by omega⟩
  · refine ⟨some ⟨g, 0, none⟩, cap, by rw [hl], fun i hi => ⟨g, 0, rfl, ?_⟩⟩
    obtain ⟨a', c', e, hI⟩ := (OwnII.row hl hM hi).form
    refine ⟨a', c', ?_, hI⟩
    rw [Nat.zero_add, World.ownsRow.cellAt ho i (by omega), List.getElem?_eq_getElem (by omega : i < rv.length)]
    rw [List.getElem?_eq_getElem (by omega : i < rv.length)] at e
    exact congrArg some e
theorem OwnII.below {w w' : World} {B : Nat} {v : Value} {rows : List (List Int)} (h : OwnII w B v rows) (hb : Below w.heap.size w w') : OwnII w' B v rows := by
  obtain ⟨rv, hl, hM⟩ := h
  exact ⟨rv, hl, (hM.call hb).since⟩
theorem OwnII.less {w : World} {B C : Nat} {v : Value} {rows : List (List Int)} (h : OwnII w B v rows) (hC : C ≤ B) : OwnII w C v rows := by
  obtain ⟨rv, hl, hM⟩ := h
  exact ⟨rv, hl, hM.less hC⟩
theorem OwnII.nil (w : World) (B : Nat) (hB : B ≤ w.heap.size) : OwnII w B (.slice none 0 0) [] :=
  ⟨[], rfl, ⟨Below.refl _ _, hB, fun _ h => (by cases h), List.Pairwise.nil, fun x hx => by rw [List.mem_singleton.1 (show x ∈ [_] from hx)]; exact World.ownsRow_nil _ _ _ _, fun _ _ _ h => (by cases h), List.pairwise_singleton _ _⟩⟩

set_option maxHeartbeats 1000000 in
theorem eqIQ_same (a b : Option Addr) (c d : Nat) (xs : List Int) (hx : xs.length ≤ 2000000) (w : World) (ha : IntsAt w a xs) (hb : IntsAt w b xs) :
    Calls Try.prog 13 #[.slice a xs.length c, .slice b xs.length d] w (RetQ (.bool true) w) := by
  have HA := Lib.hid ha
  have HB := Lib.hid hb
  clear ha hb
  go_enter Try.func13, Try.ntmps13
  go_wp2
  go_loopw [5] (fun i wr => ∃ k : Nat, k ≤ xs.length ∧ i = .int .i64 k ∧ Hid (∃ n, wr = w.drewN n)) (fun i _ => xs.length - (intOf i).toNat)
  case atStart => exact ⟨0, Nat.zero_le _, rfl, 0, rfl⟩
  case round =>
    obtain ⟨k, hk, rfl, HW⟩ := hrel
    by_cases hlt : k < xs.length
    · obtain ⟨g, off, rfl, hc⟩ := HA.out k hlt
      obtain ⟨g', off', rfl, hc'⟩ := HB.out k hlt
      have hcell : ∀ a, wr.cell? a = w.cell? a := fun a => by obtain ⟨n, hn⟩ := HW.out; rw [hn]; rfl
      rw [← hcell] at hc hc'
      clear hcell
      have i1 : (0 : Int) ≤ (k : Int) := by omega
      have i2 : (k : Int) < (xs.length : Int) := by omega
      generalize xs[k]?.getD 0 = x at *
      go_wp2
      go_quiet (fail)
      go_wp2
      go_roundw
      case rel => exact ⟨k + 1, by omega, by go_num, by obtain ⟨n, hn⟩ := HW.out; rw [hn]; exact dN2 _ _ _⟩
      case measure => simp [intOf] <;> omega
    · go_wp2
      go_ret
      exact ⟨rfl, HW.out⟩

set_option maxHeartbeats 1000000 in
theorem eqII_same (a b : Value) (rows : List (List Int)) (hn : rows.length ≤ 2000000) (hx : ∀ i : Nat, (rows[i]?.getD []).length ≤ 2000000) (w : World) (ha : SlII w a rows) (hb : SlII w b rows) :
    Calls Try.prog 22 #[a, b] w (RetQ (.bool true) w) := by
  obtain ⟨a, c, rfl, hA⟩ := ha
  obtain ⟨b, d, rfl, hB⟩ := hb
  have HA := Lib.hid hA
  have HB := Lib.hid hB
  have HX := Lib.hid hx
  clear hA hB hx
  go_enter Try.func22, Try.ntmps22
  go_wp2
  go_loopw [5] (fun i wr => ∃ k : Nat, k ≤ rows.length ∧ i = .int .i64 k ∧ Hid (∃ n, wr = w.drewN n)) (fun i _ => rows.length - (intOf i).toNat)
  case atStart => exact ⟨0, Nat.zero_le _, rfl, 0, rfl⟩
  case round =>
    obtain ⟨k, hk, rfl, HW⟩ := hrel
    by_cases hlt : k < rows.length
    · obtain ⟨g, off, rfl, a1, c1, hc, hI⟩ := HA.out k hlt
      obtain ⟨g', off', rfl, a2, c2, hc', hI'⟩ := HB.out k hlt
      have HE : Hid (∀ n, Calls Try.prog 13 #[.slice a1 (rows[k]?.getD []).length c1, .slice a2 (rows[k]?.getD []).length c2] (wr.drewN n) (RetQ (.bool true) (wr.drewN n))) := fun n => by
        obtain ⟨m, hm⟩ := HW.out
        rw [hm]
        exact eqIQ_same a1 a2 c1 c2 _ (HX.out k) _ hI hI'
      have hcell : ∀ a, wr.cell? a = w.cell? a := fun a => by obtain ⟨n, hn⟩ := HW.out; rw [hn]; rfl
      rw [← hcell] at hc hc'
      clear hcell hI hI'
      have i1 : (0 : Int) ≤ (k : Int) := by omega
      have i2 : (k : Int) < (rows.length : Int) := by omega
      generalize (rows[k]?.getD []).length = len at *
      go_wp2_with fail
      go_quiet ((go_at_call 13; exact Calls.quiet_of (HE.out _)))
      go_wp2_with fail
      go_roundw
      case rel => exact ⟨k + 1, by omega, by go_num, by obtain ⟨n, hn⟩ := HW.out; rw [hn]; exact dN2 _ _ _⟩
      case measure => simp [intOf] <;> omega
    · go_wp2_with fail
      go_ret
      exact ⟨rfl, HW.out⟩

/-- how many numbers there are in the first i rows -/
def sumLen (rows : List (List Int)) (i : Nat) : Nat := ((rows.take i).map List.length).sum
theorem sumLen_succ (rows : List (List Int)) (i : Nat) (h : i < rows.length) : sumLen rows (i + 1) = sumLen rows i + (rows[i]?.getD []).length := by
  simp only [sumLen]
  rw [List.take_succ_eq_append_getElem h, List.map_append, List.sum_append, List.getElem?_eq_getElem h]
  simp
theorem sumLen_le (rows : List (List Int)) (i : Nat) : sumLen rows i ≤ sumLen rows rows.length := by
  simp only [sumLen, List.take_length]
  have h := List.take_append_drop i rows
  conv => rhs; rw [← h, List.map_append, List.sum_append]
  omega
/-- the rows marked, from k on: i rows done -/
def mixII (k i : Nat) (rows : List (List Int)) : List (List Int) := (List.range rows.length).map fun j => if j < i then marks (k + sumLen rows j) (rows[j]?.getD []).length else rows[j]?.getD []
theorem mixII_len (k i : Nat) (rows : List (List Int)) : (mixII k i rows).length = rows.length := by simp [mixII]
theorem mixII_get (k i : Nat) (rows : List (List Int)) {j : Nat} (h : j < rows.length) : (mixII k i rows)[j]?.getD [] = if j < i then marks (k + sumLen rows j) (rows[j]?.getD []).length else rows[j]?.getD [] := by
  simp [mixII, h]
theorem mixII_zero (k : Nat) (rows : List (List Int)) : mixII k 0 rows = rows := by
  apply List.ext_getElem
  · rw [mixII_len]
  · intro j h1 h2
    simp [mixII, h2]
theorem mixII_set (k i : Nat) (rows : List (List Int)) (h : i < rows.length) : (mixII k i rows).set i (marks (k + sumLen rows i) (rows[i]?.getD []).length) = mixII k (i + 1) rows := by
  apply List.ext_getElem
  · simp [mixII_len]
  · intro j h1 h2
    rw [List.getElem_set]
    simp only [mixII, List.getElem_map, List.getElem_range]
    by_cases e : i = j
    · subst e; rw [if_pos rfl, if_pos (by omega)]
    · rw [if_neg e]
      by_cases h3 : j < i
      · rw [if_pos h3, if_pos (by omega)]
      · rw [if_neg h3, if_neg (by omega)]
theorem rowG_set (rv : List Value) (rows : List (List Int)) (i : Nat) (xs : List Int) (hl : rv.length = rows.length) (hi : i < rows.length) : (rowG rv rows).set i (rv[i]?.getD undef, 2, i64s xs) = rowG rv (rows.set i xs) := by
  apply List.ext_getElem?
  intro j
  by_cases e : j = i
  · subst e
    rw [List.getElem?_set_self (by simp [rowG]; omega), rowG_get (by simpa using hl) (by simpa using hi), List.getElem?_set_self hi]
    rfl
  · rw [List.getElem?_set_ne (Ne.symm e)]
    simp only [rowG, List.getElem?_zipWith, List.getElem?_set_ne (Ne.symm e)]

set_option maxHeartbeats 1000000 in
theorem markI2_any (B : Nat) (v : Value) (xs : List Int) (k : Nat) (hx : xs.length ≤ 1000000) (hk : k ≤ 1000000) (w : World) (h : OwnI w B v xs) :
    Calls Try.prog 14 #[v, .int .i64 (k : Int)] w fun e w' => e = .returned (.int .i64 ((k + xs.length : Nat) : Int)) ∧ w.grownBy w' v.ownBlock ∧ OwnI w' B v (marks k xs.length) := by
  obtain ⟨a, c, rfl, -⟩ := h.form
  have H0 : Hid (OwnI w B (.slice a xs.length c) (mixM k 0 xs)) := by
    show OwnI _ _ _ _
    simpa [mixM, marks] using h
  clear h
  go_enter Try.func14, Try.ntmps14
  go_wp2
  go_loopw [1, 5] (fun u i wr => ∃ j : Nat, j ≤ xs.length ∧ i = .int .i64 j ∧ u = .int .i64 ((k + j : Nat) : Int) ∧ Hid (w.grownBy wr (Value.slice a xs.length c).ownBlock) ∧ Hid (OwnI wr B (.slice a xs.length c) (mixM k j xs))) (fun _ i _ => xs.length - (intOf i).toNat)
  case atStart => exact ⟨0, Nat.zero_le _, rfl, rfl, ⟨rfl, rfl, rfl, Nat.le_refl _, fun _ _ _ => rfl⟩, H0⟩
  case round =>
    clear H0
    obtain ⟨j, hj, rfl, rfl, HG, HO⟩ := hrel
    by_cases hlt : j < xs.length
    · have hO := HO.out
      have hlen := mixM_length k j xs hj
      obtain ⟨g, rfl, hgB⟩ : ∃ g, a = some ⟨g, 0, none⟩ ∧ B ≤ g := by
        rcases hO.2 with ⟨_, e⟩ | ⟨g, cap, cur, hv, h1, rest⟩
        · omega
        · simp at hv; exact ⟨g, hv.1, h1⟩
      have hO' : wr.ownsRow B 2 1 (.slice (some ⟨g, 0, none⟩) xs.length c) xs.length (i64s (mixM k j xs)) := by
        have := hO; rw [OwnI, hlen] at this; exact this
      have hcell := hO'.cellAt j (by omega)
      rw [i64s_get (by omega)] at hcell
      have hfz := hO'.frozenAt j
      have hset : Hid (OwnI (wr.setCell ⟨g, j, none⟩ (.int .i64 ((k + j : Nat) : Int))) B (.slice (some ⟨g, 0, none⟩) xs.length c) (mixM k (j + 1) xs)) := by
        have := (hO'.stored j (.int .i64 ((k + j : Nat) : Int))).1
        rw [mixM_succ k j xs hlt] at this
        show World.ownsRow _ _ _ _ _ _ _
        rw [mixM_length k (j + 1) xs hlt]
        exact this
      have HG2 : Hid (w.grownBy (wr.setCell ⟨g, j, none⟩ (.int .i64 ((k + j : Nat) : Int))) (Value.slice (some ⟨g, 0, none⟩) xs.length c).ownBlock) := by
        have hg := HG.out
        refine ⟨hg.os, hg.tape, hg.output, by have := hg.size; simpa [World.setCell] using this, fun b hb hne => ?_⟩
        have : b ≠ g := fun e => hne (by rw [e]; rfl)
        exact (heap_setCell_other wr ⟨g, j, none⟩ b _ this).trans (hg.block b hb hne)
      have i1 : (0 : Int) ≤ (j : Int) := by omega
      have i2 : (j : Int) < (xs.length : Int) := by omega
      obtain ⟨z, hz⟩ : ∃ z, (mixM k j xs)[j]?.getD 0 = z := ⟨_, rfl⟩
      rw [hz] at hcell
      clear hz hO hO' hlen
      go_wp2
      go_roundw
      case rel => exact ⟨j + 1, by omega, by go_num, by go_num, HG2, hset⟩
      case measure => simp [intOf]; omega
    · have hj' : j = xs.length := by omega
      subst hj'
      rw [mixM_all] at HO
      go_wp2
      go_ret
      exact ⟨rfl, HG.out, HO.out⟩

set_option maxHeartbeats 1000000 in
theorem markII_any (B : Nat) (v : Value) (rows : List (List Int)) (k : Nat) (hn : rows.length ≤ 500000) (hs : sumLen rows rows.length ≤ 500000) (hk : k ≤ 100) (w : World) (h : OwnII w B v rows) :
    Calls Try.prog 23 #[v, .int .i64 (k : Int)] w fun e w' => e = .returned (.int .i64 ((k + sumLen rows rows.length : Nat) : Int)) ∧ Below B w w' ∧ OwnII w' B v (mixII k rows.length rows) := by
  obtain ⟨a, c, rfl, -⟩ := h.sl
  obtain ⟨rv, hl, hM⟩ := h
  have H0 : Hid (Mm B w w [] ((.slice a rows.length c, 31, rv) :: rowG rv (mixII k 0 rows))) := by rw [mixII_zero]; exact hM
  clear hM
  go_enter Try.func23, Try.ntmps23
  go_wp2_with fail
  go_loopw [1, 5] (fun u i wr => ∃ j : Nat, j ≤ rows.length ∧ i = .int .i64 j ∧ u = .int .i64 ((k + sumLen rows j : Nat) : Int) ∧ Hid (Mm B w wr [] ((.slice a rows.length c, 31, rv) :: rowG rv (mixII k j rows)))) (fun _ i _ => rows.length - (intOf i).toNat)
  case atStart => exact ⟨0, Nat.zero_le _, rfl, rfl, H0⟩
  case round =>
    clear H0
    obtain ⟨j, hj, rfl, rfl, HM⟩ := hrel
    by_cases hlt : j < rows.length
    · have hlm := mixII_len k j rows
      have ho := HM.out.own _ (List.mem_cons_self ..)
      simp only at ho
      obtain ⟨g, rfl⟩ : ∃ g, a = some ⟨g, 0, none⟩ := by
        rcases ho.2 with ⟨_, e⟩ | ⟨g, cap, cur, hv, h1, rest⟩
        · omega
        · simp at hv; exact ⟨g, hv.1⟩
      rw [hl] at ho
      have hcell := World.ownsRow.cellAt ho j (by omega)
      have hrow := rowG_get (rv := rv) (rows := mixII k j rows) (by rw [hlm]; exact hl) (i := j) (by rw [hlm]; exact hlt)
      rw [mixII_get k j rows hlt, if_neg (by omega)] at hrow
      have hown : OwnI wr B (rv[j]?.getD undef) (rows[j]?.getD []) := OwnI.of_row (HM.out.own _ (List.mem_cons_of_mem _ (mem_of_get hrow)))
      have hcell' : wr.cell? ⟨g, j, none⟩ = some (rv[j]?.getD undef) := by rw [hcell, List.getElem?_eq_getElem (by omega : j < rv.length)]; rfl
      obtain ⟨a', c', e, -⟩ := id hown.form
      have hss := sumLen_succ rows j hlt
      have hsl := sumLen_le rows (j + 1)
      have HSTEP : Hid (∀ w', wr.grownBy w' (rv[j]?.getD undef).ownBlock → OwnI w' B (rv[j]?.getD undef) (marks (k + sumLen rows j) (rows[j]?.getD []).length) → Mm B w w' [] ((.slice (some ⟨g, 0, none⟩) rows.length c, 31, rv) :: rowG rv (mixII k (j + 1) rows))) := fun w' hg ho' => by
        have h1 := HM.out.gcall (j + 1) (by rw [List.getElem?_cons_succ]; exact hrow) hg (n := (i64s (marks (k + sumLen rows j) (rows[j]?.getD []).length)).length) (ys := i64s (marks (k + sumLen rows j) (rows[j]?.getD []).length)) (by simpa [OwnI, i64s] using ho') rfl
        rw [List.set_cons_succ, rowG_set rv (mixII k j rows) j _ (by rw [hlm]; exact hl) (by rw [hlm]; exact hlt), mixII_set k j rows hlt] at h1
        exact h1
      have HOWN := Lib.hid hown
      have i1 : (0 : Int) ≤ (j : Int) := by omega
      have i2 : (j : Int) < (rows.length : Int) := by omega
      have HSS := Lib.hid hss
      have hlen : (rows[j]?.getD []).length ≤ 500000 := by omega
      have hacc : k + sumLen rows j ≤ 1000000 := by omega
      clear hown ho hcell hrow HM hss hsl
      generalize rv[j]?.getD undef = r at *
      generalize rows[j]?.getD [] = xs at *
      subst e
      go_wp2_with fail
      refine (markI2_any B _ xs (k + sumLen rows j) (by omega) hacc _ HOWN.out).mono ?_
      rintro e w1 ⟨rfl, hg, ho'⟩
      have HM1 := Lib.hid (HSTEP.out w1 hg ho')
      clear hg ho' hcell'
      go_wp2_with fail
      go_roundw
      case rel => exact ⟨j + 1, by omega, by go_num, by rw [HSS.out]; exact vint (by omega), HM1⟩
      case measure => simp [intOf] <;> omega
    · have hj' : j = rows.length := by omega
      subst hj'
      go_wp2_with fail
      go_ret
      exact ⟨rfl, HM.out.below, rv, by rw [mixII_len]; exact hl, HM.out.since⟩

set_option maxHeartbeats 1000000 in
theorem heldII_any (B : Nat) (v : Value) (rows : List (List Int)) (k : Nat) (hn : rows.length ≤ 500000) (hs : sumLen rows rows.length ≤ 500000) (hk : k ≤ 100) (w : World) (h : OwnII w B v (mixII k rows.length rows)) :
    Calls Try.prog 24 #[v, .int .i64 (k : Int)] w (Ret (.int .i64 ((k + sumLen rows rows.length : Nat) : Int)) w) := by
  obtain ⟨a, c, rfl, -⟩ := h.sl
  rw [mixII_len]
  obtain ⟨rv, hl, hM⟩ := h
  rw [mixII_len] at hl hM
  have HM := Lib.hid hM
  clear hM
  go_enter Try.func24, Try.ntmps24
  go_wp2_with fail
  go_loopw [1, 5] (fun u i wr => ∃ j : Nat, j ≤ rows.length ∧ i = .int .i64 j ∧ u = .int .i64 ((k + sumLen rows j : Nat) : Int) ∧ Below w.heap.size w wr) (fun _ i _ => rows.length - (intOf i).toNat)
  case atStart => exact ⟨0, Nat.zero_le _, rfl, rfl, Below.refl _ _⟩
  case round =>
    obtain ⟨j, hj, rfl, rfl, hb⟩ := hrel
    by_cases hlt : j < rows.length
    · have hlm := mixII_len k rows.length rows
      have hM := (HM.out.call hb)
      have ho := hM.own _ (List.mem_cons_self ..)
      simp only at ho
      obtain ⟨g, rfl⟩ : ∃ g, a = some ⟨g, 0, none⟩ := by
        rcases ho.2 with ⟨_, e⟩ | ⟨g, cap, cur, hv, h1, rest⟩
        · omega
        · simp at hv; exact ⟨g, hv.1⟩
      rw [hl] at ho
      have hcell := World.ownsRow.cellAt ho j (by omega)
      have hrow := rowG_get (rv := rv) (rows := mixII k rows.length rows) (by rw [hlm]; exact hl) (i := j) (by rw [hlm]; exact hlt)
      rw [mixII_get k rows.length rows hlt, if_pos hlt] at hrow
      have hown : OwnI wr B (rv[j]?.getD undef) (marks (k + sumLen rows j) (rows[j]?.getD []).length) := OwnI.of_row (hM.own _ (List.mem_cons_of_mem _ (mem_of_get hrow)))
      have hcell' : wr.cell? ⟨g, j, none⟩ = some (rv[j]?.getD undef) := by rw [hcell, List.getElem?_eq_getElem (by omega : j < rv.length)]; rfl
      obtain ⟨a', c', e, -⟩ := id hown.form
      have hss := sumLen_succ rows j hlt
      have hsl := sumLen_le rows (j + 1)
      have HOWN := Lib.hid hown
      have i1 : (0 : Int) ≤ (j : Int) := by omega
      have i2 : (j : Int) < (rows.length : Int) := by omega
      have HSS := Lib.hid hss
      have hlen : (rows[j]?.getD []).length ≤ 500000 := by omega
      have hacc : k + sumLen rows j ≤ 1000000 := by omega
      clear hown ho hcell hrow hM hss hsl
      generalize rv[j]?.getD undef = r at *
      generalize (rows[j]?.getD []).length = len at *
      rw [marks_length] at e
      subst e
      go_wp2_with fail
      refine (heldI_any B _ (k + sumLen rows j) len (by omega) hacc _ HOWN.out).mono ?_
      rintro e w1 ⟨rfl, hb1⟩
      have hbb := hb.trans (hb1.mono hb.size)
      clear hcell'
      go_wp2_with fail
      go_roundw
      case rel => exact ⟨j + 1, by omega, by go_num, by rw [HSS.out]; exact vint (by omega), hbb⟩
      case measure => simp [intOf] <;> omega
    · have hj' : j = rows.length := by omega
      subst hj'
      go_wp2_with fail
      go_ret
      exact ⟨rfl, hb⟩

/-- it returns a slice of slices of its own and a code -/
def RetII (rows : List (List Int)) (c : Int) (w : World) (e : Ending) (w' : World) : Prop := ∃ v, e = .returned (.tuple #[v, .int .i64 c]) ∧ Below w.heap.size w w' ∧ OwnII w' w.heap.size v rows
section
variable {B : Nat} {w0 w : World} {v : Value} {rv : List Value} {rows : List (List Int)}
theorem rowG_snoc (r : Value) (xs : List Int) (hl : rv.length = rows.length) : rowG (rv ++ [r]) (rows ++ [xs]) = rowG rv rows ++ [(r, 2, i64s xs)] := by
  simp only [rowG]
  rw [List.zipWith_append hl]
  rfl
theorem OwnII.of (h : Mm B w0 w [] ((v, 31, rv) :: rowG rv rows)) (hl : rv.length = rows.length) : OwnII w B v rows := ⟨rv, hl, h.since⟩
end

end Go.Proofs.Ythgkkaifdlkciaa

/- The program's group: apply, normal, at, leaves. -/
namespace Go.Proofs.Ythgkkaifdlkciaa
open Go.RowKit
set_option linter.unusedVariables false
set_option linter.unusedSimpArgs false

end Go.Proofs.Ythgkkaifdlkciaa

/- The program's group: at, leaves, key. -/
namespace Go.Proofs.Ythgkkaifdlkciaa
open Go.RowKit
set_option linter.unusedVariables false
set_option linter.unusedSimpArgs false

end Go.Proofs.Ythgkkaifdlkciaa

/- A map of strings to numbers beside memory of one's own; the places of a queue. -/
namespace Go.Proofs.Ythgkkaifdlkciaa
open Go.RowKit
set_option linter.unusedVariables false
set_option linter.unusedSimpArgs false
set_option linter.unusedSectionVars false

section
variable {B : Nat} {w0 w : World} {G : List (Value × TypeId × List Value)} {b n : Nat} {f : ByteArray → Option Nat}
end

end Go.Proofs.Ythgkkaifdlkciaa

/- sections: the program's search through the sections of a word. -/
namespace Go.Proofs.Ythgkkaifdlkciaa
open Go.RowKit
set_option linter.unusedVariables false
set_option linter.unusedSimpArgs false

def natsI (r : List Nat) : Wd := r.map fun a : Nat => (a : Int)
end Go.Proofs.Ythgkkaifdlkciaa

/- Equal machines; group words of the reference and of the program. -/
namespace Go.Proofs.Ythgkkaifdlkciaa
open Go.RowKit
set_option linter.unusedVariables false
set_option linter.unusedSimpArgs false

end Go.Proofs.Ythgkkaifdlkciaa

/- IsGroupWord; desks: sizes, copies, comparisons; IsDesk of both sides. -/
namespace Go.Proofs.Ythgkkaifdlkciaa
open Go.RowKit
set_option linter.unusedVariables false
set_option linter.unusedSimpArgs false

/-! Desks -/
end Go.Proofs.Ythgkkaifdlkciaa

/- isTrivial, groupOf, DoRelationsHold of the program. -/
namespace Go.Proofs.Ythgkkaifdlkciaa
open Go.RowKit
set_option linter.unusedVariables false
set_option linter.unusedSimpArgs false

end Go.Proofs.Ythgkkaifdlkciaa

/- A region in drawn order by what holds at each set of operations that are done. -/
namespace Go.Proofs.Ythgkkaifdlkciaa
open Go.RowKit
set_option linter.unusedVariables false
set_option linter.unusedSimpArgs false
section
variable {P : Program} {ops : Array Oper} {Q : Exit → Act → World → Prop} {md : Region.Mode} {S : World → Prop} {L : List Nat}
end
end Go.Proofs.Ythgkkaifdlkciaa

/- The reference's group words: l02State, l02Normal, l02Step, l02Led, l02Like, l02Find. -/
namespace Go.Proofs.Ythgkkaifdlkciaa
open Go.RowKit
set_option linter.unusedVariables false
set_option linter.unusedSimpArgs false

end Go.Proofs.Ythgkkaifdlkciaa

/- The reference's group words: l02Normal, l02Like, l02Find, l02Code. -/
namespace Go.Proofs.Ythgkkaifdlkciaa
open Go.RowKit
set_option linter.unusedVariables false
set_option linter.unusedSimpArgs false

end Go.Proofs.Ythgkkaifdlkciaa

/- l02Trivial. -/
namespace Go.Proofs.Ythgkkaifdlkciaa
open Go.RowKit
set_option linter.unusedVariables false
set_option linter.unusedSimpArgs false

/-- two slices of rows, and what they hold -/
def gT (q : Value) (rq : List Value) (Q : List Wd) (s : Value) (rs : List Value) (S : List Wd) : List (Value × TypeId × List Value) :=
  (q, 31, rq) :: (s, 31, rs) :: (rowG rq Q ++ rowG rs S)
/-- a new slice of one's own -/
theorem Mm.newOwn {B : Nat} {w0 w : World} {L : List (Nat × List Value × TypeId)} {G : List (Value × TypeId × List Value)} (h : Mm B w0 w L G) (cs : Array Value) (T : TypeId) (n : Nat) (hn : n = cs.toList.length) (hm : n ≤ 2000000) :
    Mm B w0 (w.alloc (.cells cs T)) L ((.slice (some ⟨w.heap.size, 0, none⟩) n n, T, cs.toList) :: G) := by
  have h2 := (h.alloc cs T).addOwn (b := w.heap.size) (cs := cs.toList) (T := T) (List.mem_cons_self ..) n hn hm
  have e : (List.filter (fun x : Nat × List Value × TypeId => x.1 != w.heap.size) ((w.heap.size, cs.toList, T) :: L)) = L := by
    rw [List.filter_cons]
    simp only [bne_self_eq_false, Bool.false_eq_true, if_false]
    rw [List.filter_eq_self]
    intro x hx
    have := (h.blk x hx).2.lt
    simp only [bne_iff_ne, ne_eq]
    omega
  rwa [e] at h2

end Go.Proofs.Ythgkkaifdlkciaa

/- DoRelationsHold of both sides. -/
namespace Go.Proofs.Ythgkkaifdlkciaa
open Go.RowKit
set_option linter.unusedVariables false
set_option linter.unusedSimpArgs false

end Go.Proofs.Ythgkkaifdlkciaa

/- Slices of slices of numbers among a law's arguments. -/
namespace Go.Proofs.Ythgkkaifdlkciaa
open Go.ChangeShapes Go.WideShapes Go.ChangeAt Go.RowKit Go.Joins
set_option linter.unusedVariables false
set_option linter.unusedSimpArgs false

section
variable {H : Type} {enc : TypeId × Value → H} {w : World} {base : Nat} {held : Bool}
end
end Go.Proofs.Ythgkkaifdlkciaa

/- The three closed facts that speak of the whole program, with few signs for the kernel: only the head of the dump's first row is read. -/
namespace Go.Proofs.Ythgkkaifdlkciaa
open Go

theorem words_app : ∀ (a r : List Char), a.all (· != ' ') = true → wordsSigns (a ++ ' ' :: r) = a :: wordsSigns r
  | [], r, _ => by simp [wordsSigns]
  | c :: a, r, h => by
    simp only [List.all_cons, Bool.and_eq_true, bne_iff_ne, ne_eq] at h
    have ih := words_app a r (by simpa using h.2)
    rw [List.cons_append, wordsSigns, ih]
    exact h.1

theorem list_cut (l p : List Char) (n : Nat) (h : l.take n = p) : l = p ++ l.drop n := by
  rw [← h, List.take_append_drop]

theorem head_words (l t : List Char) (h1 : l.take 77 = "harness".toList ++ ' ' :: (t ++ ' ' :: ("cut".toList ++ [' '])))
    (ht : isSumSigns t = true) (hs : t.all (· != ' ') = true) :
    behindMainWord (wordsSigns l) = "cut".toList :: wordsSigns (l.drop 77) := by
  have e : l = "harness".toList ++ ' ' :: (t ++ ' ' :: ("cut".toList ++ ' ' :: l.drop 77)) := by
    have := list_cut l _ 77 h1
    simpa [List.append_assoc] using this
  have e2 : wordsSigns l = "harness".toList :: t :: "cut".toList :: wordsSigns (l.drop 77) := by
    conv => lhs; rw [e]
    rw [words_app _ _ (by decide), words_app _ _ hs, words_app _ _ (by decide)]
  rw [e2, behindMainWord, ht]
  simp

theorem strip_cut : ∀ (o : List String) (ws : List (List Char)), o.all (fun x => !("cut".toList == x.toList)) = true → stripLifts o ("cut".toList :: ws) = ([], "cut".toList :: ws)
  | [], _, _ => rfl
  | x :: o, ws, h => by
    simp only [List.all_cons, Bool.and_eq_true, Bool.not_eq_true'] at h
    rw [stripLifts, h.1]
    simp only [Bool.false_eq_true, if_false]
    exact strip_cut o ws (by simpa using h.2)

theorem strip_lifts (ws : List (List Char)) : stripLifts liftWords ("cut".toList :: ws) = ([], "cut".toList :: ws) :=
  strip_cut _ _ (by decide +kernel)

theorem lifts_of (P : Program) (ws : List (List Char)) (h : behindMainWord (wordsSigns P.initOrder.toList) = "cut".toList :: ws) :
    P.liftsFinal = false := by
  unfold Program.liftsFinal Program.headLifts
  rw [h, strip_lifts]
  have : ("cut".toList == "carried".toList) = false := by decide +kernel
  simp

theorem make_of (P : Program) (ws : List (List Char)) (h : behindMainWord (wordsSigns P.initOrder.toList) = "cut".toList :: ws) :
    P.make = some .cut := by
  unfold Program.make
  rw [h]
  rfl

theorem enter_of (P : Program) (ws : List (List Char)) (h : behindMainWord (wordsSigns P.initOrder.toList) = "cut".toList :: ws)
    (h1 : P.laysLater = false) (h2 : P.bearsReflect = false) (h3 : P.doorFits [] = true) : P.mayEnter = true := by
  unfold Program.mayEnter
  rw [h]
  simp only [strip_lifts, h1, h2, h3]
  simp

theorem head_cut : behindMainWord (wordsSigns Try.checked.prog.initOrder.toList) = "cut".toList :: wordsSigns (Try.checked.prog.initOrder.toList.drop 77) :=
  head_words _ ((Try.checked.prog.initOrder.toList.drop 8).take 64) (by kernel_rfl) (by kernel_rfl) (by kernel_rfl)

theorem c_lays : Try.checked.prog.laysLater = false := by kernel_rfl
theorem c_refl : Try.checked.prog.bearsReflect = false := by kernel_rfl
theorem c_door : Try.checked.prog.doorFits [] = true := by kernel_rfl

theorem c_enter : Try.checked.prog.mayEnter = true := enter_of _ _ head_cut c_lays c_refl c_door
theorem c_lifts : Try.checked.prog.liftsFinal = false := lifts_of _ _ head_cut
theorem c_make : Try.checked.prog.make = some .cut := make_of _ _ head_cut
end Go.Proofs.Ythgkkaifdlkciaa

/- Laws whose arguments are a machine and rows of numbers. -/
namespace Go.Proofs.Ythgkkaifdlkciaa
open Go.ChangeShapes Go.WideShapes Go.ChangeAt Go.RowKit Go.Joins
set_option linter.unusedVariables false
set_option linter.unusedSimpArgs false

section
variable {H : Type} {enc : TypeId × Value → H} {w : World} {base : Nat} {held : Bool}
end
end Go.Proofs.Ythgkkaifdlkciaa

/- slices.Sort at int64, laid. -/
namespace Go.Proofs.Ythgkkaifdlkciaa
open Go.Shelf
def Try.mSort_ren : Go.Shelf.Ren := ⟨fun | 5 => 40 | 8 => 69 | 7 => 68 | 19 => 94 | 20 => 95 | 10 => 85 | 11 => 86 | 12 => 87 | 13 => 88 | 14 => 89 | 15 => 90 | 16 => 91 | 17 => 92 | 18 => 93 | 30 => 103 | 31 => 104 | 32 => 105 | 33 => 106 | 34 => 107 | 35 => 108 | 40 => 112 | n => n, fun | 23 => 31 | 25 => 2 | 3 => 3 | 32 => 95 | 22 => 31 | 0 => 0 | 44 => 120 | 46 => 122 | 4 => 4 | 36 => 112 | 35 => 111 | 41 => 117 | 5 => 5 | 9 => 9 | 53 => 130 | 57 => 134 | 63 => 141 | 64 => 142 | n => n, fun n => n⟩
theorem Try.mSort : Go.Proofs.SlLaysM.n5 Try.prog Try.mSort_ren := {
  mixed := by kernel_rfl,
  f5 := ⟨Try.f40.name, by decide, Try.func40.trans (congrArg some (by kernel_rfl))⟩,
  f7 := ⟨Try.f68.name, by decide, Try.func68.trans (congrArg some (by kernel_rfl))⟩,
  f8 := Try.func69.trans (congrArg some (by kernel_rfl)),
  f10 := ⟨Try.f85.name, by decide, Try.func85.trans (congrArg some (by kernel_rfl))⟩,
  f11 := ⟨Try.f86.name, by decide, Try.func86.trans (congrArg some (by kernel_rfl))⟩,
  f12 := ⟨Try.f87.name, by decide, Try.func87.trans (congrArg some (by kernel_rfl))⟩,
  f13 := ⟨Try.f88.name, by decide, Try.func88.trans (congrArg some (by kernel_rfl))⟩,
  f14 := ⟨Try.f89.name, by decide, Try.func89.trans (congrArg some (by kernel_rfl))⟩,
  f15 := ⟨Try.f90.name, by decide, Try.func90.trans (congrArg some (by kernel_rfl))⟩,
  f16 := ⟨Try.f91.name, by decide, Try.func91.trans (congrArg some (by kernel_rfl))⟩,
  f17 := ⟨Try.f92.name, by decide, Try.func92.trans (congrArg some (by kernel_rfl))⟩,
  f18 := ⟨Try.f93.name, by decide, Try.func93.trans (congrArg some (by kernel_rfl))⟩,
  f19 := Try.func94.trans (congrArg some (by kernel_rfl)),
  f20 := Try.func95.trans (congrArg some (by kernel_rfl)),
  f30 := ⟨Try.f103.name, by decide, Try.func103.trans (congrArg some (by kernel_rfl))⟩,
  f31 := Try.func104.trans (congrArg some (by kernel_rfl)),
  f32 := Try.func105.trans (congrArg some (by kernel_rfl)),
  f33 := ⟨Try.f106.name, by decide, Try.func106.trans (congrArg some (by kernel_rfl))⟩,
  f34 := ⟨Try.f107.name, by decide, Try.func107.trans (congrArg some (by kernel_rfl))⟩,
  f35 := ⟨Try.f108.name, by decide, Try.func108.trans (congrArg some (by kernel_rfl))⟩,
  f40 := ⟨Try.f112.name, by decide, Try.func112.trans (congrArg some (by kernel_rfl))⟩,
  t0 := Try.underlying0,
  a0 := Try.isAgg0,
  z0 := Try.sizeOf0,
  v0 := Try.zeroValue0,
  t3 := Try.underlying3,
  a3 := Try.isAgg3,
  z3 := Try.sizeOf3,
  v3 := Try.zeroValue3,
  t4 := Try.underlying4,
  a4 := Try.isAgg4,
  z4 := Try.sizeOf4,
  v4 := Try.zeroValue4,
  t5 := Try.underlying5,
  a5 := Try.isAgg5,
  z5 := Try.sizeOf5,
  v5 := Try.zeroValue5,
  t9 := Try.underlying9,
  a9 := Try.isAgg9,
  z9 := Try.sizeOf9,
  v9 := Try.zeroValue9,
  t22 := Try.underlying31,
  a22 := Try.isAgg31,
  z22 := Try.sizeOf31,
  v22 := Try.zeroValue31,
  t23 := Try.underlying31,
  a23 := Try.isAgg31,
  z23 := Try.sizeOf31,
  v23 := Try.zeroValue31,
  t25 := Try.underlying2,
  a25 := Try.isAgg2,
  z25 := Try.sizeOf2,
  v25 := Try.zeroValue2,
  t32 := Try.underlying95,
  a32 := Try.isAgg95,
  z32 := Try.sizeOf95,
  v32 := Try.zeroValue95,
  t35 := Try.underlying111,
  a35 := Try.isAgg111,
  z35 := Try.sizeOf111,
  v35 := Try.zeroValue111,
  t36 := Try.underlying112,
  a36 := Try.isAgg112,
  z36 := Try.sizeOf112,
  v36 := Try.zeroValue112,
  t41 := Try.underlying117,
  a41 := Try.isAgg117,
  z41 := Try.sizeOf117,
  v41 := Try.zeroValue117,
  t44 := Try.underlying120,
  a44 := Try.isAgg120,
  z44 := Try.sizeOf120,
  v44 := Try.zeroValue120,
  t46 := Try.underlying122,
  a46 := Try.isAgg122,
  z46 := Try.sizeOf122,
  v46 := Try.zeroValue122,
  t53 := Try.underlying130,
  a53 := Try.isAgg130,
  z53 := Try.sizeOf130,
  v53 := Try.zeroValue130,
  t57 := Try.underlying134,
  a57 := Try.isAgg134,
  z57 := Try.sizeOf134,
  v57 := Try.zeroValue134,
  t63 := Try.underlying141,
  a63 := Try.isAgg141,
  z63 := Try.sizeOf141,
  v63 := Try.zeroValue141,
  t64 := Try.underlying142,
  a64 := Try.isAgg142,
  z64 := Try.sizeOf142,
  v64 := Try.zeroValue142 }
end Go.Proofs.Ythgkkaifdlkciaa

/- The parts of a table: no program in sight. -/
namespace Go.Proofs.Ythgkkaifdlkciaa
set_option linter.unusedVariables false
set_option linter.unusedSimpArgs false

abbrev PSt := (Nat → Bool) × List Nat
/-- the first points of the row of q are met -/
def pRow (J : Nat → Nat → Bool) (q : Nat) : Nat → PSt → PSt
  | 0, s => s
  | l + 1, s => if (J q l && !(pRow J q l s).1 l) = true then (upd (pRow J q l s).1 l true, (pRow J q l s).2 ++ [l]) else pRow J q l s
/-- the first points of the queue are done -/
def pQ (J : Nat → Nat → Bool) (N : Nat) : Nat → PSt → PSt
  | 0, s => s
  | i + 1, s => if i < (pQ J N i s).2.length then pRow J ((pQ J N i s).2[i]?.getD 0) N (pQ J N i s) else pQ J N i s
def srtQ (N : Nat) (Q : List Nat) : List Nat := (List.range N).filter fun j => decide (j ∈ Q)
/-- the parts of the first points -/
def pP (J : Nat → Nat → Bool) (N : Nat) : Nat → (Nat → Bool) × List (List Nat)
  | 0 => (fun _ => false, [])
  | k + 1 => if (pP J N k).1 k = true then pP J N k else ((pQ J N N (upd (pP J N k).1 k true, [k])).1, (pP J N k).2 ++ [srtQ N (pQ J N N (upd (pP J N k).1 k true, [k])).2])
structure PIn (N : Nat) (s : PSt) : Prop where
  nodup : s.2.Nodup
  lt : ∀ r ∈ s.2, r < N
  seen : ∀ r ∈ s.2, s.1 r = true
theorem PIn.row {J : Nat → Nat → Bool} {q N : Nat} : ∀ {l : Nat} {s : PSt}, l ≤ N → PIn N s → PIn N (pRow J q l s) ∧ ∃ R, (pRow J q l s).2 = s.2 ++ R
  | 0, s, _, h => ⟨h, [], by simp [pRow]⟩
  | l + 1, s, hl, h => by
    obtain ⟨h1, R, hR⟩ := PIn.row (J := J) (q := q) (l := l) (by omega) h
    rw [pRow]
    split
    · rename_i hc
      simp only [Bool.and_eq_true, Bool.not_eq_true'] at hc
      refine ⟨⟨?_, fun r hr => ?_, fun r hr => ?_⟩, R ++ [l], by simp [hR]⟩
      · rw [List.nodup_append]
        refine ⟨h1.nodup, by simp, fun a ha b hb => ?_⟩
        rw [List.mem_singleton.1 hb]; intro e; subst e
        rw [h1.seen a ha] at hc; cases hc.2
      · rcases List.mem_append.1 hr with hr | hr
        · exact h1.lt r hr
        · rw [List.mem_singleton.1 hr]; omega
      · unfold upd
        rcases List.mem_append.1 hr with hr | hr
        · simp only; split
          · rfl
          · exact h1.seen r hr
        · rw [List.mem_singleton.1 hr]; simp
    · exact ⟨h1, R, hR⟩
theorem PIn.queue {J : Nat → Nat → Bool} {N : Nat} : ∀ {i : Nat} {s : PSt}, PIn N s → PIn N (pQ J N i s) ∧ ∃ R, (pQ J N i s).2 = s.2 ++ R
  | 0, s, h => ⟨h, [], by simp [pQ]⟩
  | i + 1, s, h => by
    obtain ⟨h1, R, hR⟩ := PIn.queue (J := J) (i := i) h
    rw [pQ]
    split
    · obtain ⟨h2, R2, hR2⟩ := PIn.row (J := J) (q := (pQ J N i s).2[i]?.getD 0) (Nat.le_refl N) h1
      exact ⟨h2, R ++ R2, by rw [hR2, hR, List.append_assoc]⟩
    · exact ⟨h1, R, hR⟩
theorem nodup_len : ∀ (n : Nat) (l : List Nat), l.Nodup → (∀ r ∈ l, r < n) → l.length ≤ n := fun n => by
  induction n with
  | zero => intro l _ hl; cases l with
    | nil => simp
    | cons a l => have := hl a (List.mem_cons_self ..); omega
  | succ n ih =>
    intro l hd hl
    have h1 := ih (l.erase n) (hd.erase n) fun r hr => by
      have h2 := (hd.mem_erase_iff.1 hr)
      have := hl r h2.2
      omega
    by_cases c : n ∈ l
    · rw [List.length_erase_of_mem c] at h1; omega
    · rw [List.erase_of_not_mem c] at h1; omega
theorem PIn.len {N : Nat} {s : PSt} (h : PIn N s) : s.2.length ≤ N := nodup_len N s.2 h.nodup h.lt
theorem pQ_stay {J : Nat → Nat → Bool} {N i : Nat} {s : PSt} (h : (pQ J N i s).2.length ≤ i) : ∀ j, pQ J N (i + j) s = pQ J N i s
  | 0 => rfl
  | j + 1 => by
    rw [← Nat.add_assoc, pQ, pQ_stay h j, if_neg (by omega)]
theorem pQ_end {J : Nat → Nat → Bool} {N i : Nat} {s : PSt} (h : PIn N s) (hi : (pQ J N i s).2.length ≤ i) (hN : i ≤ N) : pQ J N N s = pQ J N i s := by
  have := pQ_stay hi (N - i)
  rwa [show i + (N - i) = N by omega] at this
theorem PIn.start {N k : Nat} (hk : k < N) (sn : Nat → Bool) : PIn N (upd sn k true, [k]) :=
  ⟨by simp, fun r hr => by rw [List.mem_singleton.1 hr]; exact hk, fun r hr => by rw [List.mem_singleton.1 hr]; simp [upd]⟩
end Go.Proofs.Ythgkkaifdlkciaa

/- BoundaryWords of the reference. -/
namespace Go.Proofs.Ythgkkaifdlkciaa
open Go.RowKit
set_option linter.unusedVariables false
set_option linter.unusedSimpArgs false

theorem bls_info (tv : Nat → Bool) : (Try.prog.info? 61).map (·.size) = some (bls tv).length := by rw [show (bls tv).length = 16 by simp [bls]]; kernel_rfl
theorem bls_one (tv : Nat → Bool) : ∀ v ∈ bls tv, v.oneCell' = true := fun v hv => by simp only [bls, List.mem_map] at hv; obtain ⟨z, _, rfl⟩ := hv; rfl

end Go.Proofs.Ythgkkaifdlkciaa
