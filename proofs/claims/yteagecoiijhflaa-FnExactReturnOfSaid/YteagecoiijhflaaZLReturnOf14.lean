import Derived.Test.YteagecoiijhflaaZLReturnOf13
import Derived.Test.YteagecoiijhflaaZLReturnOf02
import Derived.Maps.AppendAt
import Derived.Laws.AppendOwnNone
import Derived.Test.YteagecoiijhflaaRows
import Derived.WalkKit
import Derived.ProofKit
import Derived.OpenShut
import Derived.SizedLaws
import Derived.Carry
import Derived.Test.YteagecoiijhflaaZLReturnOf01
import Derived.Lib.SmallJoins
import Derived.Deep.Matrix
import Derived.Deep.Strs
import Derived.Test.YteagecoiijhflaaChecked
import Derived.JoinedOf
/- Cycles and returns of the reference. -/
namespace Go.Proofs.Yteagecoiijhflaa
open Go.RowKit
set_option linter.unusedVariables false
set_option linter.unusedSimpArgs false

theorem turn_at {m : Mch} (hwf : m.Wf) (hok : m.Ok) {w : World} {b T : Nat} (h : Blk w b (tcells m) T) :
    MAt w b 0 m ∧ MAt w b 98 (invM m) ∧ w.rangeAt b 196 (clsV m) ∧ w.rangeAt b 212 (trvV m) := by
  have hl1 := Mch.cells_length hwf
  have hl2 := Mch.cells_length (invM_wf hok hwf)
  have hl3 := clsV_len m
  refine ⟨h.range 0 _ (fun j v hj => ?_), h.range 98 _ (fun j v hj => ?_), h.range 196 _ (fun j v hj => ?_), h.range 212 _ (fun j v hj => ?_)⟩
  · have : j < m.cells.length := (List.getElem?_eq_some_iff.1 hj).1
    simp only [tcells, Nat.zero_add]
    rw [List.getElem?_append_left this]; exact hj
  · have : j < (invM m).cells.length := (List.getElem?_eq_some_iff.1 hj).1
    simp only [tcells]
    rw [List.getElem?_append_right (by omega), hl1, show 98 + j - 98 = j by omega, List.getElem?_append_left this]; exact hj
  · have : j < (clsV m).length := (List.getElem?_eq_some_iff.1 hj).1
    simp only [tcells]
    rw [List.getElem?_append_right (by omega), hl1, List.getElem?_append_right (by omega), hl2, show 196 + j - 98 - 98 = j by omega, List.getElem?_append_left this]; exact hj
  · have : j < (trvV m).length := (List.getElem?_eq_some_iff.1 hj).1
    simp only [tcells]
    rw [List.getElem?_append_right (by omega), hl1, List.getElem?_append_right (by omega), hl2, List.getElem?_append_right (by omega), hl3, show 212 + j - 98 - 98 - 16 = j by omega]; exact hj

def cycB (m : Mch) (g : Wd) (x i : Nat) : List Value := (List.range i).map fun j => .int .u8 (itX m g x j : Int)
theorem cycB_len (m : Mch) (g : Wd) (x i : Nat) : (cycB m g x i).length = i := by simp [cycB]
theorem cycB_snoc (m : Mch) (g : Wd) (x i : Nat) : cycB m g x (i + 1) = cycB m g x i ++ [.int .u8 (itX m g x i : Int)] := by simp [cycB, List.range_succ]
theorem cycB_get (m : Mch) (g : Wd) (x : Nat) {i n : Nat} (h : i < n) : (cycB m g x n)[i]? = some (.int .u8 (itX m g x i : Int)) := by
  simp [cycB, List.getElem?_map, List.getElem?_range h]

set_option maxRecDepth 100000 in
set_option maxHeartbeats 2000000 in
theorem l06Cycle_any (m : Mch) (hwf : m.Wf) (hok : m.Ok) (a : Option Addr) (g : Wd) (c : Nat) (hg : GW m g) (hl : g.length ≤ 1000) (x : Nat) (hx : x < m.l) (w : World) (hI : IntsAt w a g) :
    Calls Try.prog 85 #[.agg (tcells m).toArray, .slice a g.length c, .int .u8 (x : Int)] w fun e w' => ∃ v, e = .returned v ∧ Below w.heap.size w w' ∧ w'.ownsRow w.heap.size 5 1 v (cycN m g x) (cycB m g x (cycN m g x)) := by
  obtain ⟨i0, hi, hz0, hz1, hz2⟩ := info_parts Try.info5
  have h3 := hok.l_le
  have hwi := invM_wf hok hwf
  have HI := Lib.hid hI
  have HGW := Lib.hid hg
  have HN := Lib.hid (cycN_le m g x)
  have HIT := Lib.hid (itX_cyc hok hwf hg hx)
  have HIM := Lib.hid (mach_info hwf)
  have HII := Lib.hid (mach_info hwi)
  have hmx : Try.prog.follows .mixedOrders = true := by kernel_rfl
  have HMX := Lib.hid hmx
  have hM0 := ((Mm.start w).alloc (tcells m).toArray 67).newOwn #[.int .u8 (x : Int)] 5 1 rfl (by omega)
  rw [show (w.alloc (.cells (tcells m).toArray 67)).heap.size = w.heap.size + 1 by simp] at hM0
  clear hI hg hmx
  go_enter Try.func85, Try.ntmps85
  go_wp2_with fail
  go_loopw [7] (fun v wr => ∃ j : Nat, Hid (j + 1 ≤ cycN m g x) ∧ Mm w.heap.size w wr [(w.heap.size, tcells m, 67)] [(v, 5, cycB m g x (j + 1))]) (fun v _ => 4 - slLn v)
  case atStart => exact ⟨0, HN.out.1, hM0⟩
  case round =>
    clear hM0
    obtain ⟨j, HJ, hM⟩ := hrel
    have hj : j ≤ 2 := by have := HJ.out; have := HN.out.2; omega
    have hMd := hM.drew
    have hO := hMd.own _ (List.mem_cons_self ..)
    simp only at hO
    have hcap0 := own_cap hO
    obtain ⟨gv, cv, rfl, -, -, hcl⟩ := own_form hO (by rw [cycB_len]; omega)
    have hcap : j + 1 ≤ cv := by have := hcap0 _ _ _ rfl; rw [cycB_len] at this; exact this
    have c1 := hcl j _ (cycB_get m g x (Nat.lt_succ_self j))
    have hy := itX_lt hok hwf HGW.out hx j
    have hln : (cycB m g x (j + 1)).length = j + 1 := cycB_len ..
    rw [hln]
    rw [hln] at hMd
    have hS0 : Below w.heap.size w wr.drew := hMd.below
    have HSM : Hid (∀ W, Below wr.drew.heap.size wr.drew W → MAt W w.heap.size 0 m ∧ MAt W w.heap.size 98 (invM m) ∧ W.cell? ⟨gv, j, none⟩ = some (.int .u8 (itX m g x j : Int))) := fun W hW => by
      have h1 := turn_at hwf hok ((hMd.call hW).at 0 rfl)
      exact ⟨h1.1, h1.2.1, (hW.cell (World.block_lt_of_cell? _ _ c1)).trans c1⟩
    have HS := Lib.hid (cycB_snoc m g x (j + 1))
    have HE : Hid (itX m g x (j + 1) = x → j + 1 = cycN m g x) := fun e => by
      have h1 := HJ.out
      by_cases c : j + 1 < cycN m g x
      · exact absurd e (itX_ne (by omega) c)
      · omega
    have HE2 : Hid (itX m g x (j + 1) ≠ x → j + 2 ≤ cycN m g x) := fun e => by
      have h1 := HJ.out
      by_cases c : j + 1 = cycN m g x
      · rw [c] at e; exact absurd HIT.out e
      · omega
    have HLED : Hid (∀ W, Below w.heap.size w W → Calls Try.prog 86 #[.agg m.cells.toArray, .agg (invM m).cells.toArray, .slice a g.length c, .int .u8 (itX m g x j : Int)] W fun e w' => ∃ v, e = .returned (.tuple #[.int .u8 (itX m g x (j + 1) : Int), v]) ∧ Below W.heap.size W w' ∧ OwnI w' W.heap.size v (ledS m g (itX m g x j))) := fun W hW => l02Led_any m hwf hok a g c HGW.out hl (itX m g x j) hy W (HI.out.keep hW)
    have i1 : (0 : Int) ≤ (j : Int) := by omega
    have i2 : (j : Int) < ((j + 1 : Nat) : Int) := by omega
    have i3 : (j : Int) < (j : Int) + 1 := by omega
    have e1 : IntKind.i64.wrap (((j + 1 : Nat) : Int) - 1) = (j : Int) := by rw [IntWalk.i64_in _ (by omega)]; omega
    clear hO hcl hcap0 hM c1
    have HYL : Hid (itX m g x (j + 1) < m.l) := itX_lt hok hwf HGW.out hx (j + 1)
    clear hy
    generalize itX m g x (j + 1) = y at *
    generalize itX m g x j = z at *
    go_wp2_with fail
    refine region_S (fun W => MAt W w.heap.size 0 m ∧ MAt W w.heap.size 98 (invM m) ∧ W.cell? ⟨gv, j, none⟩ = some (.int .u8 (z : Int))) [] 17 rfl HMX.out (HSM.out _ (Below.refl _ _)) (fun hU => ?_)
    obtain ⟨W, hW⟩ : ∃ W, W = wr.drew := ⟨_, rfl⟩
    rw [← hW] at hU hMd HSM hS0 ⊢
    clear hW
    (refine AnyS.take (i := 0) rfl (by kernel_rfl) (by kernel_rfl) (by kernel_rfl) (by rfl) (fun _ _ _ h => h) (by rfl) (by intro w; go_simp; with_reducible rfl) hU (fun hU => ?_); (try simp only [Act.put, List.setIfInBounds_toArray, List.set_cons_zero, List.set_cons_succ]); refine AnyS.take (i := 2) rfl (by kernel_rfl) (by kernel_rfl) (by kernel_rfl) (by rfl) (fun _ _ _ h => h) (by rfl) (by intro w; go_simp; with_reducible rfl) hU (fun hU => ?_); (try simp only [Act.put, List.setIfInBounds_toArray, List.set_cons_zero, List.set_cons_succ]); refine AnyS.take (i := 4) rfl (by kernel_rfl) (by kernel_rfl) (by kernel_rfl) (by rfl) (fun _ _ _ h => h) (by rfl) (by intro w; go_simp; with_reducible rfl) hU (fun hU => ?_); (try simp only [Act.put, List.setIfInBounds_toArray, List.set_cons_zero, List.set_cons_succ]); refine AnyS.take (i := 5) rfl (by kernel_rfl) (by kernel_rfl) (by kernel_rfl) (by rfl) (fun _ _ _ h => h) (by rfl) (by intro w; go_simp; with_reducible rfl) hU (fun hU => ?_); (try simp only [Act.put, List.setIfInBounds_toArray, List.set_cons_zero, List.set_cons_succ]); refine AnyS.take (i := 6) rfl (by kernel_rfl) (by kernel_rfl) (by kernel_rfl) (by rfl) (fun _ _ _ h => h) (by rfl) (by intro w; go_simp; with_reducible rfl) hU (fun hU => ?_); (try simp only [Act.put, List.setIfInBounds_toArray, List.set_cons_zero, List.set_cons_succ]))
    (refine AnyS.takeS (i := 1) rfl (by kernel_rfl) (by kernel_rfl) (by kernel_rfl) (by rfl) (by kernel_rfl) (by kernel_rfl) (fun _ _ _ h => h) (by rfl) (fun W hW => run_ld Try.underlying29 rfl HIM.out (.tmp 13) rfl rfl hW.1) hU (fun hU => ?_); (try simp only [Act.put, List.setIfInBounds_toArray, List.set_cons_zero, List.set_cons_succ]))
    (refine AnyS.takeS (i := 3) rfl (by kernel_rfl) (by kernel_rfl) (by kernel_rfl) (by rfl) (by kernel_rfl) (by kernel_rfl) (fun _ _ _ h => h) (by rfl) (fun W hW => run_ld Try.underlying29 rfl HII.out (.tmp 15) rfl rfl hW.2.1) hU (fun hU => ?_); (try simp only [Act.put, List.setIfInBounds_toArray, List.set_cons_zero, List.set_cons_succ]))
    (refine AnyS.take (i := 7) rfl (by kernel_rfl) (by kernel_rfl) (by kernel_rfl) (by rfl) (fun _ _ _ h => h) (by rfl) (by intro w; go_simp; with_reducible rfl) hU (fun hU => ?_); (try simp only [Act.put, List.setIfInBounds_toArray, List.set_cons_zero, List.set_cons_succ]); refine AnyS.take (i := 8) rfl (by kernel_rfl) (by kernel_rfl) (by kernel_rfl) (by rfl) (fun _ _ _ h => h) (by rfl) (by intro w; go_simp; with_reducible rfl) hU (fun hU => ?_); (try simp only [Act.put, List.setIfInBounds_toArray, List.set_cons_zero, List.set_cons_succ]))
    rw [IntWalk.i64_in (j : Int) (by omega)]
    (refine AnyS.take (i := 9) rfl (by kernel_rfl) (by kernel_rfl) (by kernel_rfl) (by rfl) (fun _ _ _ h => h) (by rfl) (by intro w; go_simp; with_reducible rfl) hU (fun hU => ?_); (try simp only [Act.put, List.setIfInBounds_toArray, List.set_cons_zero, List.set_cons_succ]))
    (refine AnyS.takeS (i := 10) rfl (by kernel_rfl) (by kernel_rfl) (by kernel_rfl) (by rfl) (by kernel_rfl) (by kernel_rfl) (fun _ _ _ h => h) (by rfl) (by intro W hSw; have h1 := hSw.2.2; clear hSw; go_simp; with_reducible rfl) hU (fun hU => ?_); (try simp only [Act.put, List.setIfInBounds_toArray, List.set_cons_zero, List.set_cons_succ]))
    refine AnyS.branch (rs := [11]) (by kernel_rfl) (by simp) (AllS.cons rfl (fun K hK => ?_) AllS.nil)
    go_simp
    refine (HLED.out _ hS0).mono ?_
    rintro e w5 ⟨v, rfl, hb5, hO5⟩
    have hM5 := hMd.call hb5
    refine hK.out _ _ (.inl (HSM.out _ hb5)) (fun hU => ?_)
    clear hK K hMd
    (try simp only [Act.put, List.setIfInBounds_toArray, List.set_cons_zero, List.set_cons_succ])
    (refine AnyS.take (i := 12) rfl (by kernel_rfl) (by kernel_rfl) (by kernel_rfl) (by rfl) (fun _ _ _ h => h) (by rfl) (by intro w; go_simp; with_reducible rfl) hU (fun hU => ?_); (try simp only [Act.put, List.setIfInBounds_toArray, List.set_cons_zero, List.set_cons_succ]); refine AnyS.take (i := 13) rfl (by kernel_rfl) (by kernel_rfl) (by kernel_rfl) (by rfl) (fun _ _ _ h => h) (by rfl) (by intro w; go_simp; with_reducible rfl) hU (fun hU => ?_); (try simp only [Act.put, List.setIfInBounds_toArray, List.set_cons_zero, List.set_cons_succ]); refine AnyS.take (i := 14) rfl (by kernel_rfl) (by kernel_rfl) (by kernel_rfl) (by rfl) (fun _ _ _ h => h) (by rfl) (by intro w; go_simp; with_reducible rfl) hU (fun hU => ?_); (try simp only [Act.put, List.setIfInBounds_toArray, List.set_cons_zero, List.set_cons_succ]); refine AnyS.take (i := 15) rfl (by kernel_rfl) (by kernel_rfl) (by kernel_rfl) (by rfl) (fun _ _ _ h => h) (by rfl) (by intro w; go_simp; with_reducible rfl) hU (fun hU => ?_); (try simp only [Act.put, List.setIfInBounds_toArray, List.set_cons_zero, List.set_cons_succ]); refine AnyS.take (i := 16) rfl (by kernel_rfl) (by kernel_rfl) (by kernel_rfl) (by rfl) (fun _ _ _ h => h) (by rfl) (by intro w; go_simp; with_reducible rfl) hU (fun hU => ?_); (try simp only [Act.put, List.setIfInBounds_toArray, List.set_cons_zero, List.set_cons_succ]))
    refine AnyS.done (by kernel_rfl) ?_ _
    clear hU HSM HLED hO5 hb5 hS0
    by_cases e : y = x
    · have h1 := HE.out e
      have hO := hM5.own _ (List.mem_cons_self ..)
      simp only at hO
      rw [hln] at hO
      rw [h1] at hO
      have HO := Lib.hid hO
      have hb := hM5.below
      subst e
      rw [h1]
      clear hM5 HE HE2 hO
      go_wp2_with fail
      go_ret
      exact ⟨_, rfl, hb, HO.out⟩
    · have h1 := Lib.hid (HE2.out e)
      have e2 : ((y : Int) == (x : Int)) = false := by simp; omega
      clear HE HE2 e
      go_wp2_with (at_builtin; refine Mm.append rfl (.tmp 31) (.tmp 33) 106 rfl hM5 0 rfl Try.underlying106 hi hz0 hz1 hz2 rfl rfl rfl rfl (by omega) (by omega) ?_)
      intro g' cap' w3 hM3
      have HM3 : Hid (Mm w.heap.size w w3 [(w.heap.size, tcells m, 67)] [(.slice (some ⟨g', 0, none⟩) (j + 1 + 1) cap', 5, cycB m g x (j + 1 + 1))]) := by
        rw [HS.out]; show Mm _ _ _ _ _; simpa [cycB_len] using hM3
      clear hM5 hM3
      go_wp2_with fail
      go_roundw
      case rel => exact ⟨j + 1, h1.out, HM3.out⟩
      case measure => simp [slLn] <;> omega
end Go.Proofs.Yteagecoiijhflaa

/- 'out = append(out, row...)' in a function's own memory. -/
namespace Go.Proofs.Yteagecoiijhflaa
open Go.RowKit
set_option linter.unusedVariables false
set_option linter.unusedSimpArgs false
section
variable {B : Nat} {w0 w : World} {L : List (Nat × List Value × TypeId)} {G : List (Value × TypeId × List Value)}

theorem Mm.grow2 (h : Mm B w0 w L G) (i : Nat) {v v' : Value} {E : TypeId} {xs : List Value} (hi : G[i]? = some (v, E, xs)) {news : List Value} {m : Nat} {w' : World} (hm : m = news.length)
    (hown : w'.ownsRow B E 1 v' (xs.length + m) (xs ++ news)) (hgrow : w.grownBy w' v.ownBlock) (hlies : v'.ownBlock = v.ownBlock ∨ v'.ownBlock = some w.heap.size) :
    Mm B w0 w' L (G.set i (v', E, xs ++ news)) := by
  have hv := mem_of_get hi
  have hsz := hgrow.size
  have hblock : ∀ k, k < w.heap.size → v.ownBlock ≠ some k → w'.heap[k]? = w.heap[k]? := fun k hk hne => hgrow.block k hk (Ne.symm hne)
  have hnb : ∀ k, k < w.heap.size → v.ownBlock ≠ some k → v'.ownBlock ≠ some k := fun k hk hne e => by
    rcases hlies with h' | h'
    · rw [h'] at e; exact hne e
    · rw [h'] at e; injection e with e; omega
  have hsym : ∀ x y : Value × TypeId × List Value, (∀ b, x.1.ownBlock = some b → y.1.ownBlock ≠ some b) → ∀ b, y.1.ownBlock = some b → x.1.ownBlock ≠ some b := fun x y h b e e' => h b e' e
  refine ⟨?_, by have := h.size; omega, fun x hx => ⟨(h.blk x hx).1, (hblock _ (h.blk x hx).2.lt (h.sep _ hv x hx)).trans (h.blk x hx).2⟩, h.dist, fun x hx => ?_, fun x hx y hy => ?_, ?_⟩
  · refine ⟨hgrow.os.trans h.below.os, hgrow.tape.trans h.below.tape, hgrow.output.trans h.below.output, by have := h.below.size; omega, fun k hk => ?_⟩
    have hkw : k < w.heap.size := by have := h.size; omega
    exact (hblock k hkw (fun e => by have := (World.ownsRow.lt (h.own _ hv) k e).1; omega)).trans (h.below.block k hk)
  · rcases mem_set_of hx with rfl | ⟨j, hj, hx⟩
    · have : (xs ++ news).length = xs.length + m := by rw [List.length_append, hm]
      simp only [this]
      exact hown
    · have ho := h.own x (mem_of_get hx)
      refine ⟨ho.1, ?_⟩
      rcases ho.2 with hn | ⟨g', cap', cur, hv', h1, h2, rest⟩
      · exact .inl hn
      · have hlt := h.ownlt (mem_of_get hx) (by rw [hv']; rfl : x.1.ownBlock = some g')
        exact .inr ⟨g', cap', cur, hv', h1, (hblock g' hlt (pairwise_get hsym h.gdist hx hi hj g' (by rw [hv']; rfl))).trans h2, rest⟩
  · rcases mem_set_of hx with rfl | ⟨j, hj, hx⟩
    · exact hnb _ (h.blk y hy).2.lt (h.sep _ hv y hy)
    · exact h.sep x (mem_of_get hx) y hy
  · rw [List.pairwise_iff_getElem]
    intro a b ha' hb' hab c e
    simp only [List.getElem_set] at e ⊢
    simp only [List.length_set] at ha' hb'
    by_cases e1 : i = a
    · subst e1
      simp only [if_true] at e
      rw [if_neg (by omega)]
      intro e2
      have hlt := h.ownlt (List.getElem_mem hb') e2
      exact hnb c hlt (pairwise_get hsym h.gdist (List.getElem?_eq_getElem hb') hi (by omega) c e2) e
    · rw [if_neg e1] at e
      by_cases e2 : i = b
      · subst e2
        simp only [if_true]
        have hlt := h.ownlt (List.getElem_mem ha') e
        exact hnb c hlt (pairwise_get hsym h.gdist (List.getElem?_eq_getElem ha') hi (by omega) c e)
      · rw [if_neg e2]
        exact (List.pairwise_iff_getElem.1 h.gdist) a b ha' hb' hab c e

/-- 'out = append(out, row...)' to the slice number i; the row is somebody's own -/
theorem Mm.appendRow {P : Program} {ops : Array Oper} {rest : List Oper} {o : Oper} {a : Act} {Q : Exit → Act → World → Prop} (hgd : o.guard = none) (s x : Operand) (t : TypeId)
    (ho : o.op = .call { callee := .builtin .append, args := #[s, x], argTypes := #[t, t] })
    (h : Mm B w0 w L G) (i : Nat) {v : Value} {E : TypeId} {xs : List Value} (hi : G[i]? = some (v, E, xs)) {i0 : TypeInfo} {z : Value} {bytes : Nat} (ht : P.underlying t = some (.slice E)) (hI : P.info? E = some i0) (hz : i0.zero = some z)
    (hsize : i0.size = 1) (hby : i0.bytes = bytes) (hzs : z.cells.size = 1) (hs : a.eval s = v) {u : Value} (hx : a.eval x = u) {B2 n : Nat} {news : List Value} (hn : n = news.length) (hu : w.ownsRow B2 E 1 u n news) (h1 : ∀ y ∈ news, y.oneCell' = true)
    (hlen : xs.length ≤ 1000000) (hlen2 : news.length ≤ 1000000) (hbytes : bytes ≤ 1000)
    (hk : ∀ v' w', Mm B w0 w' L (G.set i (v', E, xs ++ news)) → wpList P ops Q rest (a.put o.dst v') w') :
    wpList P ops Q (o :: rest) a w := by
  subst hn
  have hov := h.own _ (mem_of_get hi)
  simp only at hov
  rcases id hu.2 with ⟨rfl, h0⟩ | ⟨g, cap, cur, rfl, -⟩
  · have hnil : news = [] := List.eq_nil_of_length_eq_zero (by omega)
    subst hnil
    refine wpList_append_own_none hgd s x t ho B E i0 1 ht hI v xs.length xs hs hov hx ?_
    refine hk v w ?_
    rw [List.append_nil]
    have : G.set i (v, E, xs) = G := by
      apply List.ext_getElem?
      intro j
      rw [List.getElem?_set]
      split
      · rename_i e; subst e
        split
        · rw [hi]
        · rename_i hc; rw [List.getElem?_eq_none (by omega)]
      · rfl
    rw [this]; exact h
  · refine wpList_append_own_at w hgd s x t ho B E i0 z 1 bytes ht hI hz hsize hby hzs (by decide) v xs.length xs hs hov ⟨g, 0, none⟩ news.length cap news hx (by omega) (fun j y hj => ?_) h1 (by unfold maxLen; omega) ?_ h.size (fun v' w' a1 a2 _ a4 => hk v' w' (h.grow2 i hi rfl a1 a2 a4))
    · exact World.ownsRow.cells hu (g := g) rfl j y hj
    · calc (xs.length + news.length) * bytes ≤ 2000000 * 1000 := Nat.mul_le_mul (by omega) hbytes
        _ ≤ _ := by omega
end
end Go.Proofs.Yteagecoiijhflaa

/- Returns of the reference. -/
namespace Go.Proofs.Yteagecoiijhflaa
open Go.RowKit
set_option linter.unusedVariables false
set_option linter.unusedSimpArgs false

def RetT (r : Option (Wd × Nat)) (w : World) (e : Ending) (w' : World) : Prop := match r with
  | none => e = .returned (.tuple #[.slice none 0 0, .int .i64 0, .bool false]) ∧ Below w.heap.size w w'
  | some (s, k) => ∃ v, e = .returned (.tuple #[v, .int .i64 k, .bool true]) ∧ Below w.heap.size w w' ∧ OwnI w' w.heap.size v s

set_option maxRecDepth 100000 in
set_option maxHeartbeats 2000000 in
theorem l06Return_any (m : Mch) (hwf : m.Wf) (hok : m.Ok) (a : Option Addr) (g : Wd) (c : Nat) (hg : GW m g) (hl : g.length ≤ 40) (x : Nat) (hx : x < m.l) (w : World) (hI : IntsAt w a g) :
    Calls Try.prog 55 #[.agg (tcells m).toArray, .slice a g.length c, .int .u8 (x : Int)] w (RetT (retR m g x) w) := by
  obtain ⟨i0, hi, hz0, hz1, hz2⟩ := info_parts Try.info2
  have hwi := invM_wf hok hwf
  have HI := Lib.hid hI
  have HGW := Lib.hid hg
  have HIM := Lib.hid (mach_info hwf)
  have HII := Lib.hid (mach_info hwi)
  have HT := Lib.hid (infoT228 hwf hok)
  have hmx : Try.prog.follows .mixedOrders = true := by kernel_rfl
  have HMX := Lib.hid hmx
  have hn := cycN_le m g x
  have hM0 := (Mm.start w).alloc (tcells m).toArray 67
  have hrange := (hM0.at 0 rfl).all
  simp only at hrange
  have HC := Lib.hid (l06Cycle_any m hwf hok a g c hg (by omega) x hx _ (hI.keep hM0.below))
  have HM0 := Lib.hid hM0
  have HR : Hid (retR m g x = if 40 < cycN m g x * g.length then none else some (nrm m (ledS m (repW g (cycN m g x)) x), cycN m g x)) := by show _ = _; rfl
  have hm1 : cycN m g x * g.length ≤ 120 := by
    have := Nat.mul_le_mul hn.2 hl
    omega
  clear hI hg hmx hM0
  generalize hk : cycN m g x = k at *
  have e1 : IntKind.i64.wrap ((k : Int) * (g.length : Int)) = ((k * g.length : Nat) : Int) := by rw [← Int.natCast_mul, IntWalk.i64_in _ (by omega)]
  go_enter Try.func55, Try.ntmps55
  go_wp2_with ((with_reducible refine ld_row ?_ 67 (.tmp 3) ?_ w.heap.size 0 ?_ (tcells m) (.struct _) hrange Try.underlying67 ?_ HT.out ?_); exact rfl; exact rfl; exact rfl; exact rfl)
  refine HC.out.mono ?_
  rintro e w1 ⟨v1, rfl, hb1, hO1⟩
  have hM1 := HM0.out.callOwn hb1 hO1 (by rw [cycB_len])
  obtain ⟨gv, cv, rfl, -, -, hcl⟩ := own_form hO1 (by omega)
  have hM2 := hM1.newOwn #[] 2 0 rfl (by omega)
  clear HC hrange HM0 hO1 hb1 hcl hM1
  by_cases h40 : 40 < k * g.length
  · have hr : Hid (retR m g x = none) := HR.out.trans (if_pos h40)
    have h4 : (40 : Int) < ((k * g.length : Nat) : Int) := by omega
    have hb := hM2.below
    clear HR hM2
    go_wp2_with fail
    go_ret3
    rw [hr.out]
    exact ⟨rfl, hb⟩
  · have hr : Hid (retR m g x = some (nrm m (ledS m (repW g k) x), k)) := HR.out.trans (if_neg h40)
    have h4 : ((k * g.length : Nat) : Int) ≤ 40 := by omega
    clear HR
    go_wp2_with fail
    clear h4 e1
    have HCI := Lib.hid (cls_info m)
    have HTI := Lib.hid (trv_info m)
    have hkx : (cycB m g x k).length = k := cycB_len ..
    have HNN := Lib.hid hn
    go_loopw [10, 11] (fun out i wr => ∃ j : Nat, j ≤ k ∧ i = .int .i64 j ∧ Mm w.heap.size w wr [(w.heap.size, tcells m, 67)] [(out, 2, i64s (ledS m (repW g j) x)), (.slice (some ⟨gv, 0, none⟩) k cv, 5, cycB m g x k)]) (fun _ i _ => k - (intOf i).toNat)
    case atStart => exact ⟨0, Nat.zero_le _, rfl, hM2⟩
    case round =>
      clear hM2
      obtain ⟨j, hj, rfl, hM⟩ := hrel
      have hlj : (ledS m (repW g j) x).length ≤ 120 := by
        rw [ledS_len, repW_len]
        have := Nat.mul_le_mul_right g.length hj
        omega
      have HLJ := Lib.hid hlj
      by_cases hlt : j < k
      · have hMd := hM.drew
        have hO := hMd.own _ (List.mem_cons_of_mem _ (List.mem_cons_self ..))
        simp only at hO
        have c1 := hO.cells (g := gv) rfl j _ (cycB_get m g x hlt)
        rw [show (⟨gv, 0, none⟩ : Addr).add j = ⟨gv, j, none⟩ by unfold Addr.add; split <;> simp_all] at c1
        have hy := itX_lt hok hwf HGW.out hx j
        have hS0 : Below w.heap.size w wr.drew := hMd.below
        have HSM : Hid (∀ W, Below wr.drew.heap.size wr.drew W → MAt W w.heap.size 0 m ∧ MAt W w.heap.size 98 (invM m) ∧ W.cell? ⟨gv, j, none⟩ = some (.int .u8 (itX m g x j : Int))) := fun W hW => by
          have h1 := turn_at hwf hok ((hMd.call hW).at 0 rfl)
          exact ⟨h1.1, h1.2.1, (hW.cell (World.block_lt_of_cell? _ _ c1)).trans c1⟩
        have HLED : Hid (∀ W, Below w.heap.size w W → Calls Try.prog 86 #[.agg m.cells.toArray, .agg (invM m).cells.toArray, .slice a g.length c, .int .u8 (itX m g x j : Int)] W fun e w' => ∃ v, e = .returned (.tuple #[.int .u8 (ledX m g (itX m g x j) : Int), v]) ∧ Below W.heap.size W w' ∧ OwnI w' W.heap.size v (ledS m g (itX m g x j))) := fun W hW => l02Led_any m hwf hok a g c HGW.out (by omega) (itX m g x j) hy W (HI.out.keep hW)
        have HNX := Lib.hid (ledS_rep m g x j)
        have HSL := Lib.hid (ledS_len m g (itX m g x j))
        have i1 : (0 : Int) ≤ (j : Int) := by omega
        have i2 : (j : Int) < (k : Int) := by omega
        clear hO hM c1 hy
        generalize ledX m g (itX m g x j) = y at *
        generalize ledS m g (itX m g x j) = sec at *
        generalize itX m g x j = z at *
        go_wp2_with fail
        refine region_S (fun W => MAt W w.heap.size 0 m ∧ MAt W w.heap.size 98 (invM m) ∧ W.cell? ⟨gv, j, none⟩ = some (.int .u8 (z : Int))) [] 15 rfl HMX.out (HSM.out _ (Below.refl _ _)) (fun hU => ?_)
        obtain ⟨W, hW⟩ : ∃ W, W = wr.drew := ⟨_, rfl⟩
        rw [← hW] at hU hMd HSM hS0 ⊢
        clear hW
        (refine AnyS.take (i := 0) rfl (by kernel_rfl) (by kernel_rfl) (by kernel_rfl) (by rfl) (fun _ _ _ h => h) (by rfl) (by intro w; go_simp; with_reducible rfl) hU (fun hU => ?_); (try simp only [Act.put, List.setIfInBounds_toArray, List.set_cons_zero, List.set_cons_succ]); refine AnyS.take (i := 2) rfl (by kernel_rfl) (by kernel_rfl) (by kernel_rfl) (by rfl) (fun _ _ _ h => h) (by rfl) (by intro w; go_simp; with_reducible rfl) hU (fun hU => ?_); (try simp only [Act.put, List.setIfInBounds_toArray, List.set_cons_zero, List.set_cons_succ]); refine AnyS.take (i := 4) rfl (by kernel_rfl) (by kernel_rfl) (by kernel_rfl) (by rfl) (fun _ _ _ h => h) (by rfl) (by intro w; go_simp; with_reducible rfl) hU (fun hU => ?_); (try simp only [Act.put, List.setIfInBounds_toArray, List.set_cons_zero, List.set_cons_succ]); refine AnyS.take (i := 5) rfl (by kernel_rfl) (by kernel_rfl) (by kernel_rfl) (by rfl) (fun _ _ _ h => h) (by rfl) (by intro w; go_simp; with_reducible rfl) hU (fun hU => ?_); (try simp only [Act.put, List.setIfInBounds_toArray, List.set_cons_zero, List.set_cons_succ]); refine AnyS.take (i := 6) rfl (by kernel_rfl) (by kernel_rfl) (by kernel_rfl) (by rfl) (fun _ _ _ h => h) (by rfl) (by intro w; go_simp; with_reducible rfl) hU (fun hU => ?_); (try simp only [Act.put, List.setIfInBounds_toArray, List.set_cons_zero, List.set_cons_succ]); refine AnyS.take (i := 7) rfl (by kernel_rfl) (by kernel_rfl) (by kernel_rfl) (by rfl) (fun _ _ _ h => h) (by rfl) (by intro w; go_simp; with_reducible rfl) hU (fun hU => ?_); (try simp only [Act.put, List.setIfInBounds_toArray, List.set_cons_zero, List.set_cons_succ]))
        (refine AnyS.takeS (i := 1) rfl (by kernel_rfl) (by kernel_rfl) (by kernel_rfl) (by rfl) (by kernel_rfl) (by kernel_rfl) (fun _ _ _ h => h) (by rfl) (fun W hW => run_ld Try.underlying29 rfl HIM.out (.tmp 32) rfl rfl hW.1) hU (fun hU => ?_); (try simp only [Act.put, List.setIfInBounds_toArray, List.set_cons_zero, List.set_cons_succ]))
        (refine AnyS.takeS (i := 3) rfl (by kernel_rfl) (by kernel_rfl) (by kernel_rfl) (by rfl) (by kernel_rfl) (by kernel_rfl) (fun _ _ _ h => h) (by rfl) (fun W hW => run_ld Try.underlying29 rfl HII.out (.tmp 34) rfl rfl hW.2.1) hU (fun hU => ?_); (try simp only [Act.put, List.setIfInBounds_toArray, List.set_cons_zero, List.set_cons_succ]))
        (refine AnyS.takeS (i := 8) rfl (by kernel_rfl) (by kernel_rfl) (by kernel_rfl) (by rfl) (by kernel_rfl) (by kernel_rfl) (fun _ _ _ h => h) (by rfl) (by intro W hSw; have h1 := hSw.2.2; clear hSw; go_simp; with_reducible rfl) hU (fun hU => ?_); (try simp only [Act.put, List.setIfInBounds_toArray, List.set_cons_zero, List.set_cons_succ]))
        refine AnyS.branch (rs := [9]) (by kernel_rfl) (by simp) (AllS.cons rfl (fun K hK => ?_) AllS.nil)
        go_simp
        refine (HLED.out _ hS0).mono ?_
        rintro e w5 ⟨v, rfl, hb5, hO5⟩
        have hM5 := hMd.call hb5
        have HO5 := Lib.hid hO5
        refine hK.out _ _ (.inl (HSM.out _ hb5)) (fun hU => ?_)
        clear hK K hMd
        (try simp only [Act.put, List.setIfInBounds_toArray, List.set_cons_zero, List.set_cons_succ])
        (refine AnyS.take (i := 10) rfl (by kernel_rfl) (by kernel_rfl) (by kernel_rfl) (by rfl) (fun _ _ _ h => h) (by rfl) (by intro w; go_simp; with_reducible rfl) hU (fun hU => ?_); (try simp only [Act.put, List.setIfInBounds_toArray, List.set_cons_zero, List.set_cons_succ]); refine AnyS.take (i := 11) rfl (by kernel_rfl) (by kernel_rfl) (by kernel_rfl) (by rfl) (fun _ _ _ h => h) (by rfl) (by intro w; go_simp; with_reducible rfl) hU (fun hU => ?_); (try simp only [Act.put, List.setIfInBounds_toArray, List.set_cons_zero, List.set_cons_succ]); refine AnyS.take (i := 12) rfl (by kernel_rfl) (by kernel_rfl) (by kernel_rfl) (by rfl) (fun _ _ _ h => h) (by rfl) (by intro w; go_simp; with_reducible rfl) hU (fun hU => ?_); (try simp only [Act.put, List.setIfInBounds_toArray, List.set_cons_zero, List.set_cons_succ]); refine AnyS.take (i := 13) rfl (by kernel_rfl) (by kernel_rfl) (by kernel_rfl) (by rfl) (fun _ _ _ h => h) (by rfl) (by intro w; go_simp; with_reducible rfl) hU (fun hU => ?_); (try simp only [Act.put, List.setIfInBounds_toArray, List.set_cons_zero, List.set_cons_succ]); refine AnyS.take (i := 14) rfl (by kernel_rfl) (by kernel_rfl) (by kernel_rfl) (by rfl) (fun _ _ _ h => h) (by rfl) (by intro w; go_simp; with_reducible rfl) hU (fun hU => ?_); (try simp only [Act.put, List.setIfInBounds_toArray, List.set_cons_zero, List.set_cons_succ]))
        refine AnyS.done (by kernel_rfl) ?_ _
        clear hU HSM HLED hO5 hb5 hS0
        have hsl : (i64s sec).length ≤ 1000000 := by simp only [i64s, List.length_map, HSL.out]; omega
        have hol : (i64s (ledS m (repW g j) x)).length ≤ 1000000 := by simp only [i64s, List.length_map]; have := HLJ.out; omega
        go_wp2_with (at_builtin; refine Mm.appendRow rfl (.tmp 44) (.tmp 45) 26 rfl hM5 0 rfl Try.underlying26 hi hz0 hz1 hz2 rfl rfl rfl (n := sec.length) (by simp [i64s]) HO5.out (fun y hy => by obtain ⟨x, -, rfl⟩ := List.mem_map.1 hy; rfl) hol hsl (by omega) ?_)
        intro v' w3 hM3
        have HM3 : Hid (Mm w.heap.size w w3 [(w.heap.size, tcells m, 67)] [(v', 2, i64s (ledS m (repW g (j + 1)) x)), (.slice (some ⟨gv, 0, none⟩) k cv, 5, cycB m g x k)]) := by
          rw [HNX.out]; show Mm _ _ _ _ _; simpa [i64s] using hM3
        clear hM5 hM3 HO5
        go_wp2_with fail
        go_roundw
        case rel => exact ⟨j + 1, by omega, by go_num, HM3.out⟩
        case measure => simp [intOf] <;> omega
      · have hj' : j = k := by omega
        subst hj'
        have hO := hM.own _ (List.mem_cons_self ..)
        obtain ⟨ao, co, rfl, hIo⟩ := (OwnI.of_row hO).form
        obtain ⟨-, -, hr1, hr2⟩ := turn_at hwf hok (hM.at 0 rfl)
        have HNO := Lib.hid (l02Normal_any m hok ao (ledS m (repW g j) x) co (ledS_gw hok hwf (repW_gw HGW.out j) hx) (by omega) wr hIo)
        have hbw := hM.below
        clear hO hM hIo hkx
        go_wp2_with (first | ((with_reducible refine ld_row ?_ 64 (.tmp 48) ?_ w.heap.size 196 ?_ (clsV m) (.array 16 2) hr1 Try.underlying64 ?_ HCI.out ?_); exact rfl; exact rfl; exact rfl; exact rfl) | ((with_reducible refine ld_row ?_ 65 (.tmp 50) ?_ w.heap.size 212 ?_ (trvV m) (.array 16 4) hr2 Try.underlying65 ?_ HTI.out ?_); exact rfl; exact rfl; exact rfl; exact rfl))
        refine HNO.out.mono ?_
        rintro e w4 ⟨v, rfl, hb4, hO4⟩
        have hbb := hbw.trans (hb4.mono hbw.size)
        have HO4 := Lib.hid (hO4.less hbw.size)
        clear HNO hr1 hr2 hO4
        go_wp2_with fail
        go_ret3
        rw [hr.out]
        exact ⟨_, rfl, hbb, HO4.out⟩
end Go.Proofs.Yteagecoiijhflaa

/- ReturnOf of the reference. -/
namespace Go.Proofs.Yteagecoiijhflaa
open Go.RowKit
set_option linter.unusedVariables false
set_option linter.unusedSimpArgs false

set_option maxRecDepth 100000 in
set_option maxHeartbeats 2000000 in
theorem specReturnOf_any (m : Mch) (hwf : m.Wf) (a : Option Addr) (g : Wd) (c : Nat) (hl : g.length ≤ 1100000) (x : Int) (w : World) (hI : IntsAt w a g) :
    Calls Try.prog 16 #[.agg m.cells.toArray, .slice a g.length c, .int .i64 x] w (RetR3 (retF m g x) w) := by
  have hm := MAt.boxed w m 29
  have hb0 := boxedBelow w m.cells.toArray 29
  have HI := Lib.hid hI
  have hsz : (w.alloc (.cells m.cells.toArray 29)).heap.size = w.heap.size + 1 := by simp
  have hS := slII_one (c := c) hI hb0 26
  rw [hsz] at hS
  have HG := Lib.hid (l02Code_any m hwf _ [g] (by simp) (fun i => by
    cases i with
    | zero => simpa using hl
    | succ i => simp) _ hS)
  have hb1 : Below w.heap.size w ((w.alloc (.cells m.cells.toArray 29)).alloc (.cells #[.slice a g.length c] 26)) := hb0.alloc (by omega) _
  have HB1 := Lib.hid hb1
  have HM1 := Lib.hid (hm.keep ((Below.refl _ _).alloc (Nat.le_refl (w.alloc (.cells m.cells.toArray 29)).heap.size) (.cells #[.slice a g.length c] 26)) hwf)
  clear hI hS hb0 hb1 hsz
  go_enter Try.func16, Try.ntmps16
  go_wp2_with ((with_reducible refine ld_mach ?_ (.tmp 3) ?_ (w.heap.size) (0) ?_ m hm hwf ?_); exact rfl; exact rfl; exact rfl)
  refine HG.out.mono ?_
  rintro e w2 ⟨rfl, hb2⟩
  clear HG hm
  have hs1 := HB1.out.size
  have hbb := HB1.out.trans (hb2.mono hs1)
  have hm2 := HM1.out.keep hb2 hwf
  clear hs1 HB1 HM1 hb2
  cases hg : gwsB m [g] with
  | false =>
    have HD := Lib.hid (retF_bad (x := x) hg)
    rw [codeG_bad hg]
    clear hg hm2
    go_wp2_with fail
    go_ret3
    exact RetR3.nil HD.out hbb
  | true =>
    rw [codeG_ok hg]
    obtain ⟨hok, hgw, h40⟩ := gwsB_row hg (show 0 < [g].length by simp)
    simp only [List.getElem?_cons_zero, Option.getD_some] at hgw h40
    have cl := hm2.l
    rw [hok.L_eq] at cl
    have h3 := hok.l_le
    have h2 := hok.l_ge
    have HGW := Lib.hid hgw
    have HL := Lib.hid hok.L_eq
    have HGB := Lib.hid hg
    clear hgw hg
    cases hx : inR x 0 ((m.l : Int) - 1) with
    | false =>
      have HD : Hid (retF m g x = ([], 0, 2)) := retF_out HGB.out (by rw [HL.out]; exact hx)
      clear hm2
      go_wp2_with (go_at_call 54; refine (l01In_any _ _ _ _).mono ?_; rintro e w' ⟨rfl, rfl⟩)
      go_ret3
      exact RetR3.nil HD.out hbb
    | true =>
      have HD : Hid (retF m g x = retI m g x.toNat) := retF_in HGB.out (by rw [HL.out]; exact hx)
      obtain ⟨y, rfl⟩ : ∃ y : Nat, x = (y : Int) := ⟨x.toNat, by simp only [inR, Bool.and_eq_true, decide_eq_true_eq] at hx; omega⟩
      have hy : y < m.l := by simp only [inR, Bool.and_eq_true, decide_eq_true_eq] at hx; omega
      rw [Int.toNat_natCast] at HD
      have e8 := IntWalk.u8_in (y : Int) ⟨by omega, by omega⟩
      have HOF := Lib.hid (l06Of_any m hwf hok w2)
      go_wp2_with (first | (go_at_call 54; refine (l01In_any _ _ _ _).mono ?_; rintro e w' ⟨rfl, rfl⟩) | ((with_reducible refine ld_mach ?_ (.tmp 3) ?_ (w.heap.size) (0) ?_ m hm2 hwf ?_); exact rfl; exact rfl; exact rfl) | (go_at_call 56; refine HOF.out.mono ?_; rintro e w3 ⟨rfl, hb3⟩))
      have hbb3 := hbb.trans (hb3.mono hbb.size)
      have HRE := Lib.hid (l06Return_any m hwf hok a g c HGW.out h40 y hy w3 (HI.out.keep hbb3))
      clear HOF hm2
      go_wp2_with fail
      refine HRE.out.mono ?_
      intro e w4 hR
      clear HRE
      cases hr : retR m g y with
      | none =>
        rw [hr] at hR
        obtain ⟨rfl, hb4⟩ := hR
        have hbb4 := hbb3.trans (hb4.mono hbb3.size)
        have HRI : Hid (retI m g y = ([], 0, 3)) := by show _ = _; rw [retI, hr]
        clear hr
        go_wp2_with fail
        go_ret3
        exact RetR3.nil (HD.out.trans HRI.out) hbb4
      | some p =>
        obtain ⟨s, k⟩ := p
        rw [hr] at hR
        obtain ⟨v, rfl, hb4, hO⟩ := hR
        have hbb4 := hbb3.trans (hb4.mono hbb3.size)
        have HRI : Hid (retI m g y = (s, (k : Int), 0)) := by show _ = _; rw [retI, hr]
        have HO := Lib.hid (hO.less hbb3.size)
        clear hr hO
        go_wp2_with fail
        go_ret3
        rw [HD.out, HRI.out]
        exact ⟨_, rfl, hbb4, HO.out⟩
end Go.Proofs.Yteagecoiijhflaa

/- A law whose walk ends in 'true' and leaves what was there as it was: from the walk to the row. -/
namespace Go.Proofs.Yteagecoiijhflaa
open Go.ChangeShapes Go.WideShapes Go.ChangeAt Go.RowKit
set_option linter.unusedVariables false

theorem Try.own : ownKnob Try.prog.godebug = none := by kernel_rfl
theorem Try.laidOut : laidOutB Try.prog = true := by kernel_rfl

theorem trodAll_below {H : Type} {enc : TypeId × Value → H} {P : Program} (hl : laidOutB P = true) {W W' : World} (hb : Below W.heap.size W W') :
    ∀ (ts : List TypeId) (vs : List Value) (ds : List (DataW H)) (ps : List MemPlace), (ts.all fun t => P.readableRec t && decide (t < P.types.size)) = true → DataW.TrodAll enc P W 0 (fun _ => true) true ts vs ds ps → (∀ x ∈ ps, x.block < W.heap.size) →
      DataW.TrodAll enc P W' 0 (fun b => decide (b < W.heap.size)) true ts vs ds ps
  | [], vs, ds, ps, _, h, _ => by
    obtain ⟨rfl, rfl, rfl⟩ := trodAll_nil h
    exact trodAll_mk0
  | t :: ts, vs, ds, ps, hr, h, hlt => by
    obtain ⟨v, vs', d, ds', p, q, rfl, rfl, rfl, h1, h2⟩ := trodAll_cons h
    simp only [List.all_cons, Bool.and_eq_true, decide_eq_true_eq] at hr
    exact trodAll_cons_mk (Below.trod hl hr.1.1 hr.1.2 h1 hb fun x hx => hlt x (List.mem_append_left _ hx))
      (trodAll_below hl hb ts vs' ds' q (by simpa using hr.2) h2 fun x hx => hlt x (List.mem_append_right _ hx))

/-- the row's post behind a walk that answers true -/
theorem law_post {H : Type} {enc : TypeId × Value → H} {P : Program} {f : Func} {s : ChangeSpec} {W W' : World} {args : Array Value} {ds gs : List (DataW H)} {before : List MemPlace}
    (hl : laidOutB P = true) (hr : (f.params.toList.all fun t => P.readableRec t && decide (t < P.types.size)) = true) (hW : DataW.Whole enc P f.params.toList s.vars false W args.toList ds gs before) (hv : s.vars = [])
    (h1 : (s.fn H (ds ++ gs)).results = [.lit (.bool true)]) (h2 : (s.fn H (ds ++ gs)).args = ds) (h3 : (s.fn H (ds ++ gs)).vars = []) (hb : Below W.heap.size W W')
    {tb : TypeId} (ht : f.resultTypes = #[tb]) (hu : P.underlying tb = some .bool) :
    s.post enc P f false true false false W args (.bool true) W' := by
  have hW' := hW
  obtain ⟨p, q, hA, hV, rfl, _, _⟩ := hW
  rw [hv] at hV
  obtain ⟨rfl, rfl⟩ := trodVars_none hV
  have hlt : ∀ x ∈ p, x.block < W.heap.size := fun x hx => by simpa using hW'.lt x (by simpa using hx)
  refine ⟨_, _, _, [], p ++ [], [], hW', ?_, ?_, ?_, hb.frame _, fun h => by cases h⟩
  · rw [h1, ht]
    exact trodAll_mk1 (shut_bool hu true)
  · rw [h2, List.append_nil]
    exact trodAll_below hl hb _ _ _ _ hr hA hlt
  · rw [h3, hv]
    rfl

end Go.Proofs.Yteagecoiijhflaa

/- A machine among a law's arguments. -/
namespace Go.Proofs.Yteagecoiijhflaa
open Go.ChangeShapes Go.WideShapes Go.ChangeAt Go.RowKit Go.Joins
set_option linter.unusedVariables false
set_option linter.unusedSimpArgs false

theorem all_ints : ∀ (cs : List Value), (∀ i, i < cs.length → ∃ n : Int, cs[i]? = some (.int .u8 n) ∧ 0 ≤ n ∧ n ≤ 255) → ∃ N : List Int, cs = N.map (Value.int .u8) ∧ N.length = cs.length ∧ ∀ i : Nat, 0 ≤ N[i]?.getD 0 ∧ N[i]?.getD 0 ≤ 255
  | [], _ => ⟨[], rfl, rfl, fun i => by simp⟩
  | c :: cs, h => by
    obtain ⟨N, hN, hl, hb⟩ := all_ints cs (fun i hi => by have := h (i + 1) (by simp; omega); simpa using this)
    obtain ⟨n, hc, h0, h1⟩ := h 0 (by simp)
    simp at hc
    subst hc
    refine ⟨n :: N, by rw [hN]; rfl, by simp [hl], fun i => ?_⟩
    cases i with
    | zero => simp; omega
    | succ i => simpa using hb i

theorem split98 (cs : List Value) (h : cs.length = 98) : cs = cs.take 1 ++ ((cs.drop 1).take 1 ++ ((cs.drop 2).take 48 ++ (cs.drop 50).take 48)) := by
  have e1 : (cs.drop 50).take 48 = cs.drop 50 := List.take_of_length_le (by simp [h])
  have e2 : (cs.drop 2).take 48 ++ cs.drop 50 = cs.drop 2 := by
    have := List.take_append_drop 48 (cs.drop 2)
    rwa [List.drop_drop] at this
  have e3 : (cs.drop 1).take 1 ++ cs.drop 2 = cs.drop 1 := by
    have := List.take_append_drop 1 (cs.drop 1)
    rwa [List.drop_drop] at this
  rw [e1, e2, e3, List.take_append_drop]
section
variable {H : Type} {enc : TypeId × Value → H} {w : World} {base : Nat} {spare : Nat → Bool} {held : Bool}
theorem trod_u8 {n : Nat} {c : List Value} {y : DataW H × List MemPlace} (h : DataW.trod enc Try.prog w base spare held n 5 c = some y) : ∃ k : Int, c = [.int .u8 k] ∧ 0 ≤ k ∧ k ≤ 255 := by
  obtain ⟨k, rfl, _, hw⟩ := DataW.trod_int Try.underlying5 h
  refine ⟨k, rfl, ?_⟩
  simp [Lit.wf, IntKind.min, IntKind.max, IntKind.signed, IntKind.bits] at hw
  omega
theorem trod_some {P : Program} {t : TypeId} {xs : List (DataW H × List MemPlace)} {n i : Nat} {cs : List Value} (h : DataW.trod enc P w base spare held n t cs = xs[i]?) (hi : i < xs.length) : ∃ y, DataW.trod enc P w base spare held n t cs = some y :=
  ⟨xs[i], by rw [h, List.getElem?_eq_getElem hi]⟩
set_option maxRecDepth 100000 in
theorem trod_rows {n : Nat} {cs : List Value} {y : DataW H × List MemPlace} (h : DataW.trod enc Try.prog w base spare held n 23 cs = some y) :
    cs.length = 48 ∧ ∀ i, i < cs.length → ∃ n : Int, cs[i]? = some (.int .u8 n) ∧ 0 ≤ n ∧ n ≤ 255 := by
  have c36 : Try.prog.cellsOf 23 = 48 := by kernel_rfl
  have c35 : Try.prog.cellsOf 22 = 3 := by kernel_rfl
  have c3 : Try.prog.cellsOf 5 = 1 := by kernel_rfl
  obtain ⟨xs, m, rfl, _, hl, hx, hf⟩ := DataW.trod_array Try.underlying23 h
  rw [c36] at hl
  refine ⟨hl, fun i hi => ?_⟩
  obtain ⟨y1, h1⟩ := trod_some (hf (i / 3) (by omega)) (by omega)
  rw [c35] at h1
  obtain ⟨xs', m', rfl, _, hl', hx', hf'⟩ := DataW.trod_array Try.underlying22 h1
  obtain ⟨y2, h2⟩ := trod_some (hf' (i % 3) (by omega)) (by omega)
  rw [c3] at h2
  obtain ⟨k, hk, h0, h255⟩ := trod_u8 h2
  refine ⟨k, ?_, h0, h255⟩
  have := congrArg (fun l : List Value => l[0]?) hk
  simp only [List.getElem?_take, List.getElem?_drop, List.getElem?_cons_zero] at this
  rw [if_pos (by omega), if_pos (by omega)] at this
  have e : i / 3 * 3 + (i % 3 * 1 + 0) = i := by omega
  rw [← this, e]
set_option maxRecDepth 100000 in
theorem mach_of_trod {fuel : Nat} {cs : List Value} {y : DataW H × List MemPlace} (hf : DataW.trod enc Try.prog w base spare held fuel 25 cs = some y) :
    ∃ m : Mch, m.Wf ∧ cs = m.cells := by
  have c38 : Try.prog.cellsOf 25 = 98 := by kernel_rfl
  have c36 : Try.prog.cellsOf 23 = 48 := by kernel_rfl
  have c2 : Try.prog.cellsOf 2 = 1 := by kernel_rfl
  obtain ⟨y0, y1, y2, y3, n, _, hl, h0, h1, h2, h3⟩ := trod_struct4 Try.underlying25 hf
  simp only at h0 h1 h2 h3 hl
  rw [c38] at hl
  rw [c2] at h0 h1
  rw [c36] at h2 h3
  obtain ⟨L, e0, _, wL⟩ := DataW.trod_int Try.underlying2 h0
  obtain ⟨S, e1, _, wS⟩ := DataW.trod_int Try.underlying2 h1
  obtain ⟨lN, hN⟩ := trod_rows h2
  obtain ⟨lO, hO⟩ := trod_rows h3
  obtain ⟨N, eN, nN, bN⟩ := all_ints _ hN
  obtain ⟨O, eO, nO, bO⟩ := all_ints _ hO
  rw [lN] at nN
  rw [lO] at nO
  simp [Lit.wf, IntKind.min, IntKind.max, IntKind.signed, IntKind.bits] at wL wS
  refine ⟨⟨L, S, N, O⟩, ⟨nN, nO, bN, bO, wL, wS⟩, ?_⟩
  rw [split98 cs hl]
  simp only [Mch.cells]
  rw [List.map_append, ← eN, ← eO]
  have e0' : cs.take 1 = [.int .i64 L] := e0
  have e1' : (cs.drop 1).take 1 = [.int .i64 S] := e1
  rw [e0', e1']
  rfl
set_option maxRecDepth 100000 in
theorem open_mach {b0 : Nat} {r : Reach} {v : Value} {d : DataW H} {p : List MemPlace} (hv : Value.okWide Try.prog w r b0 25 v) (h : DataW.Trod enc Try.prog w base spare held 25 v d p) :
    ∃ m : Mch, m.Wf ∧ v = .agg m.cells.toArray := by
  obtain ⟨cs, rfl, hsz⟩ := okWide_struct Try.underlying25 hv
  obtain ⟨fuel, hf⟩ := h
  obtain ⟨cs⟩ := cs
  simp only [Value.cells] at hf
  obtain ⟨m, hw, rfl⟩ := mach_of_trod hf
  exact ⟨m, hw, rfl⟩
end
end Go.Proofs.Yteagecoiijhflaa

/- Slices of slices of numbers among a law's arguments. -/
namespace Go.Proofs.Yteagecoiijhflaa
open Go.ChangeShapes Go.WideShapes Go.ChangeAt Go.RowKit Go.Joins
set_option linter.unusedVariables false
set_option linter.unusedSimpArgs false

/-- what the size of rows says -/
def SzII (rows : List Wd) (r : Int) : Prop := r = -1 ∨ (0 ≤ r ∧ rows.length ≤ 1048576 ∧ ∀ i : Nat, (rows[i]?.getD []).length ≤ 1048576)
set_option maxHeartbeats 1000000 in
theorem szInt64SS_any (v : Value) (rows : List Wd) (left : Int) (h0 : 0 ≤ left) (h1 : left ≤ 1048576) (hn : rows.length ≤ 9223372036854775807) (hx : ∀ i : Nat, (rows[i]?.getD []).length ≤ 9223372036854775807) (w : World) (hS : SlII w v rows) :
    Calls Try.prog 23 #[v, .int .i64 left] w fun e w' => ∃ r : Int, e = .returned (.int .i64 r) ∧ SzII rows r ∧ w = w' := by
  obtain ⟨a, c, rfl, hc⟩ := hS
  have HC := Lib.hid hc
  have HX := Lib.hid hx
  clear hc hx
  go_enter Try.func23, Try.ntmps23
  by_cases hl : left < rows.length
  · have hl' : left - (rows.length : Int) < 0 := by omega
    have i1 : -9223372036854775808 ≤ left - (rows.length : Int) := by omega
    go_wp2_with fail
    go_ret
    exact ⟨-1, rfl, .inl rfl, rfl⟩
  · have hl' : ¬ left - (rows.length : Int) < 0 := by omega
    have hlen : rows.length ≤ 1048576 := by omega
    obtain ⟨l0, hl0⟩ : ∃ l0 : Int, l0 = left - (rows.length : Int) := ⟨_, rfl⟩
    have i2 : l0 ≤ 1048576 := by omega
    have i3 : 0 ≤ l0 := by omega
    have e0 : IntKind.i64.wrap (left - (rows.length : Int)) = l0 := by rw [IntWalk.i64_in _ (by omega), hl0]
    go_wp2_with fail
    go_loop [1, 5] (fun l i => ∃ (j : Nat) (r : Int), j ≤ rows.length ∧ i = .int .i64 j ∧ l = .int .i64 r ∧ 0 ≤ r ∧ r ≤ 1048576 ∧ Hid (∀ i : Nat, i < j → (rows[i]?.getD []).length ≤ 1048576)) (fun _ i => rows.length - (intOf i).toNat)
    case atStart => exact ⟨0, _, Nat.zero_le _, rfl, rfl, by omega, by omega, fun i h => by omega⟩
    case round =>
      clear e0
      obtain ⟨j, r, hj, rfl, rfl, hr0, hr1, HE⟩ := hrel
      by_cases hlt : j < rows.length
      · obtain ⟨bb, off, rfl, a', c', e1, e2⟩ := HC.out j hlt
        have HZ := Lib.hid (szInt64S_any a' (rows[j]?.getD []).length c' r hr0 hr1 (HX.out j) w)
        have j1 : (0 : Int) ≤ (j : Int) := by omega
        have j2 : (j : Int) < (rows.length : Int) := by omega
        have HN : Hid ((rows[j]?.getD []).length ≤ 1048576 → ∀ i : Nat, i < j + 1 → (rows[i]?.getD []).length ≤ 1048576) := fun h i hi => by
          by_cases e : i = j
          · subst e; exact h
          · exact HE.out i (by omega)
        clear e2
        generalize (rows[j]?.getD []).length = n at *
        by_cases hle : r < (n : Int)
        · rw [if_pos hle] at HZ
          go_wp2_with fail
          refine HZ.out.mono ?_
          rintro e w' ⟨rfl, rfl⟩
          clear HZ
          go_wp2_with fail
          go_ret
          exact ⟨-1, rfl, .inl rfl, rfl⟩
        · rw [if_neg hle] at HZ
          obtain ⟨r', hr'⟩ : ∃ r' : Int, r' = r - (n : Int) := ⟨_, rfl⟩
          rw [← hr'] at HZ
          have k1 : 0 ≤ r' := by omega
          have k2 : r' ≤ 1048576 := by omega
          have k3 : ¬ r' < 0 := by omega
          have HN2 := Lib.hid (HN.out (by omega))
          clear hr' HN hle
          go_wp2_with fail
          refine HZ.out.mono ?_
          rintro e w' ⟨rfl, rfl⟩
          clear HZ e1
          go_wp2_with fail
          go_round
          case rel => exact ⟨j + 1, r', by omega, by go_num, rfl, k1, k2, HN2.out⟩
          case measure => simp [intOf] <;> omega
      · have HN : Hid (∀ i : Nat, (rows[i]?.getD []).length ≤ 1048576) := fun i => by
          by_cases hi : i < rows.length
          · exact HE.out i (by omega)
          · rw [List.getElem?_eq_none (by omega)]; simp
        go_wp2_with fail
        go_ret
        exact ⟨r, rfl, .inr ⟨hr0, hlen, HN.out⟩, rfl⟩

/-- 'make([][]int64, n)' -/
theorem mkII (n : Nat) (hn : n ≤ 2000000) (u : World) : (Instr.makeSlice 35 (.int .i64 (n : Int)) (.int .i64 (n : Int))).run Try.prog u =
    .ok (.slice (some ⟨u.heap.size, 0, none⟩) n n) (u.alloc (.cells (madeCells #[.slice none 0 0] n) 26)) := by
  obtain ⟨i0, hi, hz0, hz1, hz2⟩ := info_parts Try.info26
  have h := run_make (P := Try.prog) u 35 26 i0 (.slice none 0 0) Try.underlying35 hi hz0 .i64 .i64 (n : Int) (n : Int) (by omega) (Int.le_refl _) (by rw [hz2]; omega) (by omega)
  simpa [hz1, Value.cells] using h
theorem madeII (n : Nat) : (madeCells #[Value.slice none 0 0] n).toList = List.replicate n (.slice none 0 0) := by
  simp only [madeCells, Array.toList_map, Array.toList_range]
  apply List.ext_getElem?
  intro i
  by_cases hi : i < n <;> simp [hi, Nat.mod_one]
theorem slII_of {B : Nat} {w0 w : World} {b : Nat} {rv : List Value} {rows : List Wd} (h : Mm B w0 w [(b, rv, 26)] (rowG rv rows)) (hl : rv.length = rows.length) : SlII w (.slice (some ⟨b, 0, none⟩) rows.length rows.length) rows := by
  refine ⟨_, _, rfl, fun i hi => ⟨b, 0, rfl, ?_⟩⟩
  have hrow : OwnI w B (rv[i]?.getD undef) (rows[i]?.getD []) := OwnI.of_row (h.own _ (mem_of_get (rowG_get hl hi)))
  obtain ⟨a, d, e', hI⟩ := hrow.form
  refine ⟨a, d, ?_, hI⟩
  rw [Nat.zero_add]
  have := (h.at 0 rfl).cell' (i := i) (v := rv[i]?.getD undef) (by simp only; rw [List.getElem?_eq_getElem (by omega)]; rfl)
  rw [this, e']

set_option maxRecDepth 100000 in
set_option maxHeartbeats 2000000 in
theorem toInt64SS_any (v : Value) (rows : List Wd) (hn : rows.length ≤ 1100000) (hx : ∀ i : Nat, (rows[i]?.getD []).length ≤ 1100000) (w : World) (hS : SlII w v rows) :
    Calls Try.prog 25 #[v] w fun e w' => ∃ v', e = .returned v' ∧ Below w.heap.size w w' ∧ SlII w' v' rows := by
  obtain ⟨a, c, rfl, hc⟩ := hS
  have HC := Lib.hid hc
  have HX := Lib.hid hx
  have hmk := mkII rows.length (by omega) w
  have hM0 := (Mm.start w).alloc (madeCells #[.slice none 0 0] rows.length) 26
  rw [madeII] at hM0
  clear hc hx
  go_enter Try.func25, Try.ntmps25
  go_wp2_with fail
  clear hmk
  go_loopw [4] (fun i wr => ∃ (j : Nat) (rv : List Value), j ≤ rows.length ∧ i = .int .i64 j ∧ Mm w.heap.size w wr [(w.heap.size, rv ++ List.replicate (rows.length - j) (.slice none 0 0), 26)] (rowG rv (rows.take j)) ∧ Hid (rv.length = j)) (fun i _ => rows.length - (intOf i).toNat)
  case atStart => exact ⟨0, [], Nat.zero_le _, rfl, by simpa [rowG] using hM0, rfl⟩
  case round =>
    clear hM0
    obtain ⟨j, rv, hj, rfl, hM, HL⟩ := hrel
    by_cases hlt : j < rows.length
    · obtain ⟨bb, off, rfl, a', c', e1, e2⟩ := HC.out j hlt
      have e1 := (hM.below.cell (World.block_lt_of_cell? w _ e1)).trans e1
      have HT := Lib.hid (toInt64S_any a' (rows[j]?.getD []) c' (HX.out j) wr (e2.keep hM.below))
      have i1 : (0 : Int) ≤ (j : Int) := by omega
      have i2 : (j : Int) < (rows.length : Int) := by omega
      have htk : rows.take (j + 1) = rows.take j ++ [rows[j]?.getD []] := by rw [List.take_succ_eq_append_getElem hlt, List.getElem?_eq_getElem hlt]; rfl
      have HTK := Lib.hid htk
      clear htk e2
      generalize rows[j]?.getD [] = r at *
      go_wp2_with fail
      refine HT.out.mono ?_
      rintro e w1 ⟨v1, rfl, hb1, hO1⟩
      have hM1 := hM.callOwn hb1 hO1 (by simp [i64s])
      have hB := hM1.at 0 rfl
      have hcell : (rv ++ List.replicate (rows.length - j) (Value.slice none 0 0))[j]? = some (.slice none 0 0) := by
        rw [List.getElem?_append_right (by rw [HL.out]; omega), HL.out, Nat.sub_self, List.getElem?_replicate, if_pos (by omega)]
      have c1 := hB.cell' hcell
      have f1 := hB.free j
      have hset : (rv ++ List.replicate (rows.length - j) (Value.slice none 0 0)).set j v1 = (rv ++ [v1]) ++ List.replicate (rows.length - (j + 1)) (.slice none 0 0) := by
        rw [List.set_append_right _ _ (by rw [HL.out]; omega), HL.out, Nat.sub_self, show rows.length - j = (rows.length - (j + 1)) + 1 by omega, List.replicate_succ, List.set_cons_zero, List.append_assoc]; rfl
      have hM2 := hM1.setCell 0 rfl j v1
      simp only [List.set_cons_zero] at hM2
      rw [hset] at hM2
      have HM2 : Hid (Mm w.heap.size w (w1.setCell ⟨w.heap.size, j, none⟩ v1) [(w.heap.size, (rv ++ [v1]) ++ List.replicate (rows.length - (j + 1)) (.slice none 0 0), 26)] (rowG (rv ++ [v1]) (rows.take (j + 1)))) := by
        rw [HTK.out, rowG_snoc v1 r (by rw [HL.out, List.length_take]; omega)]
        exact hM2.permG (List.perm_append_singleton _ _).symm
      obtain ⟨a1, d1, rfl, -⟩ := hO1.form
      clear hM hM1 hM2 hB hset hcell HT hO1 e1 hb1
      go_wp2_with fail
      go_roundw
      case rel => exact ⟨j + 1, rv ++ [.slice a1 r.length d1], by omega, by go_num, HM2.out, (by show _ = _; rw [List.length_append, HL.out]; rfl)⟩
      case measure => simp [intOf] <;> omega
    · have hj' : j = rows.length := by omega
      subst hj'
      rw [List.take_length, Nat.sub_self, List.replicate_zero, List.append_nil] at hM
      have HR := Lib.hid (slII_of hM HL.out)
      have hb := hM.below
      clear hM
      go_wp2_with fail
      go_ret
      exact ⟨_, rfl, hb, HR.out⟩

section
variable {H : Type} {enc : TypeId × Value → H} {w : World} {base : Nat} {held : Bool}
theorem rows_of_trod {n : Nat} {cs : List Value} {y : DataW H × List MemPlace} (h : DataW.trod enc Try.prog w base (fun _ => true) held n 35 cs = some y) :
    ∃ v rows, cs = [v] ∧ SlII w v rows ∧ rows.length ≤ 9223372036854775807 ∧ ∀ i : Nat, (rows[i]?.getD []).length ≤ 9223372036854775807 := by
  rcases Go.Deep.open_int_rows Try.underlying35 Try.underlying26 Try.underlying2 (by kernel_rfl) (by kernel_rfl) h with ⟨rfl, _⟩ | ⟨a, len, cap, A, L, C, Z, rfl, _, hl, hm, _, hr⟩
  · exact ⟨_, [], rfl, ⟨none, 0, rfl, fun i hi => by simp at hi⟩, by simp, fun i => by simp⟩
  · unfold maxLen at hm
    have hlen : ((List.range len).map fun r => (Z r).take (L r)).length = len := by simp
    have hrow : ∀ i, i < len → ((List.range len).map fun r => (Z r).take (L r))[i]?.getD [] = (Z i).take (L i) := fun i hi => by simp [hi]
    have hL : ∀ i, i < len → ((Z i).take (L i)).length = L i := fun i hi => by
      obtain ⟨_, h2, h3, h4, _⟩ := hr i (by omega)
      rw [List.length_take]; omega
    refine ⟨_, (List.range len).map fun r => (Z r).take (L r), rfl, ⟨some a, cap, by rw [hlen], fun i hi => ?_⟩, by rw [hlen]; omega, fun i => ?_⟩
    · rw [hlen] at hi
      obtain ⟨h1, h2, h3, h4, h5, h6, h7⟩ := hr i (by omega)
      obtain ⟨b, off, spot⟩ := a
      have hspot : spot = none := by simpa [Addr.add] using World.cell?_spot (hr 0 (by omega)).1
      subst hspot
      have hc1 : w.cell? ⟨b, off + i, none⟩ = some (.slice (A i) (L i) (C i)) := by rw [← Go.WideShapes.add_plain]; exact h1
      refine ⟨b, off, rfl, A i, C i, by rw [hc1, hrow i hi, hL i hi], ?_⟩
      rw [hrow i hi]
      intro k hk
      rw [hL i hi] at hk
      have hcp : 0 < C i := by omega
      cases hA : A i with
      | none => have := h6 hA; omega
      | some a' =>
        have hc2 := (h7 a' hA).2
        obtain ⟨b', off', spot'⟩ := a'
        have hspot' : spot' = none := by simpa [Addr.add] using World.cell?_spot (hc2 0 hcp)
        subst hspot'
        refine ⟨b', off', rfl, ?_⟩
        have := hc2 k (by omega)
        rw [Go.WideShapes.add_plain] at this
        rw [this, List.getElem?_take, if_pos hk, List.getD_eq_getElem?_getD]
    · by_cases hi : i < len
      · rw [hrow i hi, hL i hi]
        obtain ⟨_, h2, h3, h4, _⟩ := hr i (by omega)
        unfold maxLen at h3; omega
      · rw [List.getElem?_eq_none (by rw [hlen]; omega)]; simp
set_option maxRecDepth 100000 in
theorem open_rows {b0 : Nat} {r : Reach} {v : Value} {d : DataW H} {p : List MemPlace} (hv : Value.okWide Try.prog w r b0 35 v) (h : DataW.Trod enc Try.prog w base (fun _ => true) held 35 v d p) :
    ∃ rows, SlII w v rows ∧ rows.length ≤ 9223372036854775807 ∧ ∀ i : Nat, (rows[i]?.getD []).length ≤ 9223372036854775807 := by
  obtain ⟨a0, len, cap, rfl⟩ := Go.WideShapes.okWide_slice Try.underlying35 hv
  obtain ⟨fuel, hf⟩ := h
  simp only [Value.cells] at hf
  obtain ⟨v', rows, e, h1, h2, h3⟩ := rows_of_trod hf
  have e' : v' = .slice a0 len cap := by simpa using e.symm
  rw [e'] at h1
  exact ⟨rows, h1, h2, h3⟩
end
end Go.Proofs.Yteagecoiijhflaa

/- The three closed facts that speak of the whole program, with few signs for the kernel: only the head of the dump's first row is read. -/
namespace Go.Proofs.Yteagecoiijhflaa
open Go

theorem words_app : ∀ (a r : List Char), a.all (· != ' ') = true → wordsSigns (a ++ ' ' :: r) = a :: wordsSigns r
  | [], r, _ => by simp [wordsSigns]
  | c :: a, r, h => by
    simp only [List.all_cons, Bool.and_eq_true, bne_iff_ne, ne_eq] at h
    have ih := words_app a r (by simpa using h.2)
    rw [List.cons_append, wordsSigns, ih]
    exact h.1

theorem list_cut (l p : List Char) (n : Nat) (h : l.take n = p) : l = p ++ l.drop n := by
  rw [← h, List.take_append_drop]

theorem head_words (l t : List Char) (h1 : l.take 77 = "harness".toList ++ ' ' :: (t ++ ' ' :: ("cut".toList ++ [' '])))
    (ht : isSumSigns t = true) (hs : t.all (· != ' ') = true) :
    behindMainWord (wordsSigns l) = "cut".toList :: wordsSigns (l.drop 77) := by
  have e : l = "harness".toList ++ ' ' :: (t ++ ' ' :: ("cut".toList ++ ' ' :: l.drop 77)) := by
    have := list_cut l _ 77 h1
    simpa [List.append_assoc] using this
  have e2 : wordsSigns l = "harness".toList :: t :: "cut".toList :: wordsSigns (l.drop 77) := by
    conv => lhs; rw [e]
    rw [words_app _ _ (by decide), words_app _ _ hs, words_app _ _ (by decide)]
  rw [e2, behindMainWord, ht]
  simp

theorem strip_cut : ∀ (o : List String) (ws : List (List Char)), o.all (fun x => !("cut".toList == x.toList)) = true → stripLifts o ("cut".toList :: ws) = ([], "cut".toList :: ws)
  | [], _, _ => rfl
  | x :: o, ws, h => by
    simp only [List.all_cons, Bool.and_eq_true, Bool.not_eq_true'] at h
    rw [stripLifts, h.1]
    simp only [Bool.false_eq_true, if_false]
    exact strip_cut o ws (by simpa using h.2)

theorem strip_lifts (ws : List (List Char)) : stripLifts liftWords ("cut".toList :: ws) = ([], "cut".toList :: ws) :=
  strip_cut _ _ (by decide +kernel)

theorem lifts_of (P : Program) (ws : List (List Char)) (h : behindMainWord (wordsSigns P.initOrder.toList) = "cut".toList :: ws) :
    P.liftsFinal = false := by
  unfold Program.liftsFinal Program.headLifts
  rw [h, strip_lifts]
  have : ("cut".toList == "carried".toList) = false := by decide +kernel
  simp

theorem make_of (P : Program) (ws : List (List Char)) (h : behindMainWord (wordsSigns P.initOrder.toList) = "cut".toList :: ws) :
    P.make = some .cut := by
  unfold Program.make
  rw [h]
  rfl

theorem enter_of (P : Program) (ws : List (List Char)) (h : behindMainWord (wordsSigns P.initOrder.toList) = "cut".toList :: ws)
    (h1 : P.laysLater = false) (h2 : P.bearsReflect = false) (h3 : P.doorFits [] = true) : P.mayEnter = true := by
  unfold Program.mayEnter
  rw [h]
  simp only [strip_lifts, h1, h2, h3]
  simp

theorem head_cut : behindMainWord (wordsSigns Try.checked.prog.initOrder.toList) = "cut".toList :: wordsSigns (Try.checked.prog.initOrder.toList.drop 77) :=
  head_words _ ((Try.checked.prog.initOrder.toList.drop 8).take 64) (by kernel_rfl) (by kernel_rfl) (by kernel_rfl)

theorem c_lays : Try.checked.prog.laysLater = false := by kernel_rfl
theorem c_refl : Try.checked.prog.bearsReflect = false := by kernel_rfl
theorem c_door : Try.checked.prog.doorFits [] = true := by kernel_rfl

theorem c_enter : Try.checked.prog.mayEnter = true := enter_of _ _ head_cut c_lays c_refl c_door
theorem c_lifts : Try.checked.prog.liftsFinal = false := lifts_of _ _ head_cut
theorem c_make : Try.checked.prog.make = some .cut := make_of _ _ head_cut
end Go.Proofs.Yteagecoiijhflaa
