import Derived.Test.YteagecoiijhflaaZLOrderOf17
import Derived.Test.YteagecoiijhflaaZLOrderOf13
/- The program's search: a cycle of a letter. -/
namespace Go.Proofs.Yteagecoiijhflaa
open Go.RowKit
set_option linter.unusedVariables false
set_option linter.unusedSimpArgs false

/-- what a step of the program's search gives -/
def RetC (r : Ores) (B : Nat) (w0 : World) (G sb : Nat) (P : Pth) (g : Wd) (hs : List Value) (w : World) (pv : Value) (e : Ending) (w' : World) : Prop :=
  ∃ gp' c' s' f' x' k', SrM B w0 w' G sb (.slice (some ⟨gp', 0, none⟩) (P.length + 1) c') s' f' hs (P ++ [(g, x', k')]) ∧ Fr w w' sb pv (.slice (some ⟨gp', 0, none⟩) (P.length + 1) c') ∧ match r with
  | .ok n => e = .returned (.tuple #[.int .i64 (n : Int), .int .i64 0])
  | .inf ls f => e = .returned (.tuple #[.int .i64 0, .int .i64 0]) ∧ s' = txt ls ∧ f' = f
  | .lim => e = .returned (.tuple #[.int .i64 0, .int .i64 3])
def st1 (f13 f14 f15 f16 f17 f18 f19 f20 f21 : Bool) : Bool := (!f14 || f13) && (!f15 || f14) && (!f16 || f14) && (!f17 || f14) && (!f19 || (f15 && f18)) && (!f20 || (f16 && f19)) && (!f21 || (f17 && f20))
def pr1 (f13 f14 f15 f16 f17 f18 f19 f20 f21 : Bool) (i : Nat) : Bool := (i == 13 && !f13) || (i == 14 && f13 && !f14) || (i == 15 && f14 && !f15) || (i == 16 && f14 && !f16) || (i == 17 && f14 && !f17) || (i == 18 && !f18) || (i == 19 && f15 && f18 && !f19) || (i == 20 && f16 && f19 && !f20) || (i == 21 && f17 && f20 && !f21)
theorem act6 (A : Act) (i1 i2 i3 i4 i5 i6 : Nat) : A = { tmps := (((((A.tmps.setIfInBounds i1 (A.tmps.getD i1 undef)).setIfInBounds i2 (A.tmps.getD i2 undef)).setIfInBounds i3 (A.tmps.getD i3 undef)).setIfInBounds i4 (A.tmps.getD i4 undef)).setIfInBounds i5 (A.tmps.getD i5 undef)).setIfInBounds i6 (A.tmps.getD i6 undef), defers := A.defers } := by
  simp only [set_self]
theorem idxN_idxOf (D : Pth) (r : Wd) : idxN (fun i => decide ((D[i]?.getD ([], 0, 0)).1 = r)) D.length = if r ∈ D.map (·.1) then ((D.map (·.1)).idxOf r : Int) else -1 := by
  split
  · rename_i hm
    have h1 := List.idxOf_lt_length_iff.2 hm
    have h2 : (D.map (·.1))[(D.map (·.1)).idxOf r] = r := List.getElem_idxOf h1
    have hl : (D.map (·.1)).idxOf r < D.length := by simpa using h1
    refine idxN_hit hl ?_ (fun j hj => ?_)
    · rw [List.getElem?_eq_getElem hl, Option.getD_some, decide_eq_true_eq]
      rw [List.getElem_map] at h2; exact h2
    · have hjl : j < D.length := by omega
      rw [List.getElem?_eq_getElem hjl, Option.getD_some, decide_eq_false_iff_not]
      intro e
      have := List.not_of_lt_findIdx (p := (· == r)) (xs := D.map (·.1)) (i := j) (by simpa [List.idxOf] using hj)
      simp [e] at this
  · rename_i hm
    refine idxN_none fun i hi => ?_
    rw [List.getElem?_eq_getElem hi, Option.getD_some, decide_eq_false_iff_not]
    intro e
    exact hm (List.mem_map.2 ⟨_, List.getElem_mem hi, e⟩)

theorem infoSr : (Try.prog.info? 140).map (fun i => (i.zero, i.size, i.bytes)) = some (some (.agg #[.slice none 0 0, .int .i64 0, .int .i64 0]), 3, 40) := by kernel_rfl
set_option maxRecDepth 100000 in
set_option maxHeartbeats 4000000 in
theorem scycle_step (m : Mch) (hwf : m.Wf) (hok : m.Ok) (B : Nat) (w0 : World) (hB : w0.heap.size = B) (G sb : Nat) (hG : GrpR w0 G m) (sub : Option (Pth → Wd → Ores)) (P : Pth) (g : Wd) (hP : POk P) (hq : ∀ p ∈ P, p.1.length ≤ 40) (hp : ∀ p ∈ P, p.2.1 < 3) (hlp : P.length ≤ 11) (hlim : sub = none ↔ P.length = 11) (hg : GW m g) (hl : g.length ≤ 40) (x : Nat) (hx : x < m.l)
    (hso : ∀ s, sub = some s → ∀ Q r, POk Q → Q.length = P.length + 1 → (s Q r).Ok)
    (hrec : ∀ s, sub = some s → ∀ Q r W gp c st f hs x0 k0, Q.length = P.length + 1 → POk Q → (∀ p ∈ Q, p.1.length ≤ 40) → (∀ p ∈ Q, p.2.1 < 3) → GW m r → r.length ≤ 40 → SrM B w0 W G sb (.slice (some ⟨gp, 0, none⟩) (Q.length + 1) c) st f hs (Q ++ [(r, x0, k0)]) →
      Calls Try.prog 110 #[.pointer (some ⟨sb, 0, none⟩)] W (RetC (s Q r) B w0 G sb Q r hs W (.slice (some ⟨gp, 0, none⟩) (Q.length + 1) c)))
    (w : World) (gp c : Nat) (s : ByteArray) (f : Nat) (hs : List Value) (x0 k0 : Nat) (hM : SrM B w0 w G sb (.slice (some ⟨gp, 0, none⟩) (P.length + 1) c) s f hs (P ++ [(g, x0, k0)])) :
    Calls Try.prog 141 #[.pointer (some ⟨sb, 0, none⟩), .int .i64 (P.length : Int), .int .i64 (x : Int)] w (RetC (ordC m sub P g x) B w0 G sb P g hs w (.slice (some ⟨gp, 0, none⟩) (P.length + 1) c)) := by
  have h2 := hok.l_ge
  have h3 := hok.l_le
  have HMX := Lib.hid (show Try.prog.follows .mixedOrders = true by kernel_rfl)
  have HGR : Hid (∀ W, Below B w0 W → GrpR W G m) := fun W hb => hG.keep (by rw [hB]; exact hb)
  have HSO := Lib.hid hso
  have HREC := Lib.hid hrec
  have HP := Lib.hid hP
  have HQ := Lib.hid hq
  have HPL := Lib.hid hp
  have HLIM := Lib.hid hlim
  have HGW := Lib.hid hg
  have hcap : P.length + 1 ≤ c := by
    rcases hM.own.2 with ⟨e, _⟩ | ⟨g', cap, cur, e, h1, h2, h3, rest⟩
    · cases e
    · injection e with e1 e2 e3; simp at h3; omega
  obtain ⟨ag, cg, hhd, hIg, hag⟩ := hM.ws P.length (g, x0, k0) (by simp)
  have hcell : w.cell? ⟨gp, P.length * 3, none⟩ = some (.slice ag g.length cg) := by
    have hM' : SrM B w0 w G sb (.slice (some ⟨gp, 0, none⟩) (P ++ [(g, x0, k0)]).length c) s f hs (P ++ [(g, x0, k0)]) := by simpa using hM
    obtain ⟨a, c', e, -, hr⟩ := hM'.row (i := P.length) (p := (g, x0, k0)) (by simp)
    rw [hhd] at e
    injection e with e
    rw [← e] at hr
    exact hr 0 _ rfl
  have hMd := hM.drewN 1
  have HSK : Hid (∀ W, Below w.drew.heap.size w.drew W → Blk W sb [.pointer (some ⟨G, 0, none⟩), .slice (some ⟨gp, 0, none⟩) (P.length + 1) c, .string s, .int .i64 (f : Int)] 143 ∧ W.cell? ⟨gp, P.length * 3, none⟩ = some (.slice ag g.length cg)) := fun W hW => by
    refine ⟨hM.blk.keep (w' := W) ⟨hW.os, hW.tape, hW.output, hW.size, hW.block⟩, ?_⟩
    exact (hW.cell (World.block_lt_of_cell? w _ hcell)).trans hcell
  have HSR : Hid (∀ W, Below w.drew.heap.size w.drew W → SrM B w0 W G sb (.slice (some ⟨gp, 0, none⟩) (P.length + 1) c) s f hs (P ++ [(g, x0, k0)]) ∧ Fr w W sb (.slice (some ⟨gp, 0, none⟩) (P.length + 1) c) (.slice (some ⟨gp, 0, none⟩) (P.length + 1) c)) := fun W hW => ⟨hMd.call hW, Fr.of_below (w := w) (w' := W) ⟨hW.os, hW.tape, hW.output, hW.size, hW.block⟩ sb _⟩
  have HGS : Hid (gp < w.drew.heap.size ∧ sb < w.drew.heap.size ∧ gp ≠ sb) := ⟨(hM.plo gp rfl).2, hM.lt, fun e => hM.sep (by rw [e]; rfl)⟩
  have HRO : Hid (∀ W, Below w.drew.heap.size w.drew W → Calls Try.prog 60 #[.pointer (some ⟨G, 0, none⟩), .slice ag g.length cg, .int .i64 (x : Int)] W (RetR3 (retI m g x) W)) := fun W hW => returnOf_any G m hwf hok ag g cg HGW.out hl x hx W (HGR.out W ((hMd.call hW).below)) (hIg.keep ⟨hW.os, hW.tape, hW.output, hW.size, hW.block⟩)
  have i1 : (0 : Int) ≤ (P.length : Int) := by omega
  have i2 : (P.length : Int) < ((P.length + 1 : Nat) : Int) := by omega
  have i3 : (P.length : Int) < (P.length : Int) + 1 := by omega
  have HM := Lib.hid hM
  have HAG := Lib.hid hag
  have HIG := Lib.hid hIg
  clear hG hso hrec hP hq hp hlim hg hIg hag hcell hMd hM hhd
  go_enter Try.func141, Try.ntmps141
  go_wp2_with fail
  refine region_S (fun W => Blk W sb [.pointer (some ⟨G, 0, none⟩), .slice (some ⟨gp, 0, none⟩) (P.length + 1) c, .string s, .int .i64 (f : Int)] 143 ∧ W.cell? ⟨gp, P.length * 3, none⟩ = some (.slice ag g.length cg)) [] 22 rfl HMX.out (HSK.out _ (Below.refl _ _)) (fun hU => ?_)
  obtain ⟨wd, hwd⟩ : ∃ W, W = w.drew := ⟨_, rfl⟩
  rw [← hwd] at hU HSK HRO HSR HGS ⊢
  have HWD := Lib.hid hwd
  clear hwd
  (refine AnyS.take (i := 0) rfl (by kernel_rfl) (by kernel_rfl) (by kernel_rfl) (by rfl) (fun _ _ _ h => h) (by rfl) (by intro w; go_simp; with_reducible rfl) hU (fun hU => ?_); (try simp only [Act.put, List.setIfInBounds_toArray, List.set_cons_zero, List.set_cons_succ]); refine AnyS.take (i := 1) rfl (by kernel_rfl) (by kernel_rfl) (by kernel_rfl) (by rfl) (fun _ _ _ h => h) (by rfl) (by intro w; go_simp; with_reducible rfl) hU (fun hU => ?_); (try simp only [Act.put, List.setIfInBounds_toArray, List.set_cons_zero, List.set_cons_succ]); refine AnyS.take (i := 2) rfl (by kernel_rfl) (by kernel_rfl) (by kernel_rfl) (by rfl) (fun _ _ _ h => h) (by rfl) (by intro w; go_simp; with_reducible rfl) hU (fun hU => ?_); (try simp only [Act.put, List.setIfInBounds_toArray, List.set_cons_zero, List.set_cons_succ]); refine AnyS.take (i := 4) rfl (by kernel_rfl) (by kernel_rfl) (by kernel_rfl) (by rfl) (fun _ _ _ h => h) (by rfl) (by intro w; go_simp; with_reducible rfl) hU (fun hU => ?_); (try simp only [Act.put, List.setIfInBounds_toArray, List.set_cons_zero, List.set_cons_succ]); refine AnyS.take (i := 5) rfl (by kernel_rfl) (by kernel_rfl) (by kernel_rfl) (by rfl) (fun _ _ _ h => h) (by rfl) (by intro w; go_simp; with_reducible rfl) hU (fun hU => ?_); (try simp only [Act.put, List.setIfInBounds_toArray, List.set_cons_zero, List.set_cons_succ]); refine AnyS.take (i := 6) rfl (by kernel_rfl) (by kernel_rfl) (by kernel_rfl) (by rfl) (fun _ _ _ h => h) (by rfl) (by intro w; go_simp; with_reducible rfl) hU (fun hU => ?_); (try simp only [Act.put, List.setIfInBounds_toArray, List.set_cons_zero, List.set_cons_succ]); refine AnyS.take (i := 8) rfl (by kernel_rfl) (by kernel_rfl) (by kernel_rfl) (by rfl) (fun _ _ _ h => h) (by rfl) (by intro w; go_simp; with_reducible rfl) hU (fun hU => ?_); (try simp only [Act.put, List.setIfInBounds_toArray, List.set_cons_zero, List.set_cons_succ]); refine AnyS.take (i := 12) rfl (by kernel_rfl) (by kernel_rfl) (by kernel_rfl) (by rfl) (fun _ _ _ h => h) (by rfl) (by intro w; go_simp; with_reducible rfl) hU (fun hU => ?_); (try simp only [Act.put, List.setIfInBounds_toArray, List.set_cons_zero, List.set_cons_succ]))
  (refine AnyS.takeS (i := 3) rfl (by kernel_rfl) (by kernel_rfl) (by kernel_rfl) (by rfl) (by kernel_rfl) (by kernel_rfl) (fun _ _ _ h => h) (by rfl) (by intro W hSw; have h1 := hSw.1.cell' (i := 0) rfl; clear hSw; go_simp; with_reducible rfl) hU (fun hU => ?_); (try simp only [Act.put, List.setIfInBounds_toArray, List.set_cons_zero, List.set_cons_succ]))
  (refine AnyS.takeS (i := 7) rfl (by kernel_rfl) (by kernel_rfl) (by kernel_rfl) (by rfl) (by kernel_rfl) (by kernel_rfl) (fun _ _ _ h => h) (by rfl) (by intro W hSw; have h1 := hSw.1.cell' (i := 1) rfl; clear hSw; go_simp; with_reducible rfl) hU (fun hU => ?_); (try simp only [Act.put, List.setIfInBounds_toArray, List.set_cons_zero, List.set_cons_succ]))
  (refine AnyS.take (i := 9) rfl (by kernel_rfl) (by kernel_rfl) (by kernel_rfl) (by rfl) (fun _ _ _ h => h) (by rfl) (by intro w; go_simp; with_reducible rfl) hU (fun hU => ?_); (try simp only [Act.put, List.setIfInBounds_toArray, List.set_cons_zero, List.set_cons_succ]); refine AnyS.take (i := 10) rfl (by kernel_rfl) (by kernel_rfl) (by kernel_rfl) (by rfl) (fun _ _ _ h => h) (by rfl) (by intro w; go_simp; with_reducible rfl) hU (fun hU => ?_); (try simp only [Act.put, List.setIfInBounds_toArray, List.set_cons_zero, List.set_cons_succ]))
  (refine AnyS.takeS (i := 11) rfl (by kernel_rfl) (by kernel_rfl) (by kernel_rfl) (by rfl) (by kernel_rfl) (by kernel_rfl) (fun _ _ _ h => h) (by rfl) (by intro W hSw; have h1 := hSw.2; clear hSw; go_simp; with_reducible rfl) hU (fun hU => ?_); (try simp only [Act.put, List.setIfInBounds_toArray, List.set_cons_zero, List.set_cons_succ]))
  obtain ⟨R, hR⟩ : ∃ R, R = retI m g x := ⟨_, rfl⟩
  rw [← hR] at HRO
  have HRI := Lib.hid hR
  clear hR
  obtain ⟨rs, k, cd⟩ := R
  have hM0 := Mm.start wd
  refine AnyS.invA _ (fun A l ac W => ∃ (f13 f14 f15 f16 f17 f18 f19 f20 f21 : Bool) (x30 x16 x31 x32 x33 x8 x9 x10 vr z : Value) (b8 : Nat), l = #[true, true, true, true, true, true, true, true, true, true, true, true, true, f13, f14, f15, f16, f17, f18, f19, f20, f21] ∧
    ac = { tmps := (((((((A.tmps.setIfInBounds 30 x30).setIfInBounds 16 x16).setIfInBounds 31 x31).setIfInBounds 32 x32).setIfInBounds 33 x33).setIfInBounds 8 x8).setIfInBounds 9 x9).setIfInBounds 10 x10, defers := A.defers } ∧
    st1 f13 f14 f15 f16 f17 f18 f19 f20 f21 = true ∧ (f13 = true → x30 = .tuple #[vr, .int .i64 k, .int .i64 cd]) ∧ (f14 = true → x16 = .tuple #[vr, .int .i64 k, .int .i64 cd]) ∧ (f15 = true → x31 = vr) ∧ (f16 = true → x32 = .int .i64 k) ∧ (f17 = true → x33 = .int .i64 cd) ∧ (f18 = true → x8 = .pointer (some ⟨b8, 0, none⟩)) ∧ (f19 = true → z = vr) ∧ (f19 = false → z = .slice none 0 0) ∧ (f20 = true → x9 = .int .i64 k) ∧ (f21 = true → x10 = .int .i64 cd) ∧
    Mm wd.heap.size wd W (ext f18 (b8, [z], 26) []) (if f13 = true then [(vr, 2, i64s rs)] else [])) (fun l a W h => by
      obtain ⟨_, _, _, _, _, _, _, _, _, _, _, _, _, _, _, _, _, _, _, _, _, _, _, _, _, _, _, _, _, _, _, _, _, h⟩ := h
      exact HSK.out W h.below) ?_ _ _ _ ⟨false, false, false, false, false, false, false, false, false, _, _, _, _, _, _, _, _, undef, .slice none 0 0, 0, rfl, act8 _ 30 16 31 32 33 8 9 10, rfl, (fun h => by cases h), (fun h => by cases h), (fun h => by cases h), (fun h => by cases h), (fun h => by cases h), (fun h => by cases h), (fun h => by cases h), (fun _ => rfl), (fun h => by cases h), (fun h => by cases h), hM0⟩ (Nat.le_of_eq (by kernel_rfl))
  clear hU hM0
  rintro l ac W ⟨f13, f14, f15, f16, f17, f18, f19, f20, f21, x30, x16, x31, x32, x33, x8, x9, x10, vr, z, b8, rfl, rfl, hst, h30, h16, h31, h32, h33, h8, hz1, hz0, h9, h10, hM⟩
  (try simp only [List.setIfInBounds_toArray, List.set_cons_zero, List.set_cons_succ])
  by_cases hall : f21 = true
  case neg =>
    have h21 : f21 = false := by simpa using hall
    subst h21
    clear hall h10
    right
    refine ⟨?_, ?_⟩
    · clear h30 h16 h31 h32 h33 h8 hz1 hz0 h9 hM
      cases f13 <;> cases f14 <;> cases f15 <;> cases f16 <;> cases f17 <;> cases f18 <;> cases f19 <;> cases f20 <;> first | (exact absurd hst (by decide)) | exact ready_ne (by kernel_rfl)
    · intro q hq
      have hmem : pr1 f13 f14 f15 f16 f17 f18 f19 f20 false q = true := by
        clear h30 h16 h31 h32 h33 h8 hz1 hz0 h9 hM
        cases f13 <;> cases f14 <;> cases f15 <;> cases f16 <;> cases f17 <;> cases f18 <;> cases f19 <;> cases f20 <;> first | (exact absurd hst (by decide)) | exact all_mem (p := pr1 _ _ _ _ _ _ _ _ _) hq (by kernel_rfl)
      clear hq
      simp only [pr1, Bool.or_eq_true, Bool.and_eq_true, beq_iff_eq, Bool.not_eq_true'] at hmem
      have HMM := Lib.hid hM
      have H30 := Lib.hid h30
      have H16 := Lib.hid h16
      have H31 := Lib.hid h31
      have H32 := Lib.hid h32
      have H33 := Lib.hid h33
      have H8 := Lib.hid h8
      have HZ1 := Lib.hid hz1
      have HZ0 := Lib.hid hz0
      have H9 := Lib.hid h9
      have HST := Lib.hid hst
      clear hM h30 h16 h31 h32 h33 h8 hz1 hz0 h9 hst
      rcases hmem with (((((((⟨rfl, rfl⟩ | ⟨⟨rfl, rfl⟩, rfl⟩) | ⟨⟨rfl, rfl⟩, rfl⟩) | ⟨⟨rfl, rfl⟩, rfl⟩) | ⟨⟨rfl, rfl⟩, rfl⟩) | ⟨rfl, rfl⟩) | ⟨⟨⟨rfl, rfl⟩, rfl⟩, rfl⟩) | ⟨⟨⟨rfl, rfl⟩, rfl⟩, rfl⟩) | ⟨⟨⟨rfl, rfl⟩, rfl⟩, -⟩
      · obtain ⟨rfl, rfl, rfl, rfl, rfl, rfl⟩ : f14 = false ∧ f15 = false ∧ f16 = false ∧ f17 = false ∧ f19 = false ∧ f20 = false := by have := HST.out; revert this; cases f14 <;> cases f15 <;> cases f16 <;> cases f17 <;> cases f19 <;> cases f20 <;> simp [st1]
        refine wpOp_step rfl (fun K hK => ?_)
        have HK := Lib.hid hK
        clear hK
        go_simp
        refine (HRO.out W HMM.out.below).mono ?_
        rintro e W' ⟨v, rfl, hb', hO'⟩
        (try simp only [Act.put, List.setIfInBounds_toArray, List.set_cons_zero, List.set_cons_succ])
        exact HK.out _ _ ⟨true, false, false, false, false, f18, false, false, false, _, x16, x31, x32, x33, x8, x9, x10, v, z, b8, rfl, rfl, by cases f18 <;> rfl, (fun _ => rfl), (fun h => by cases h), (fun h => by cases h), (fun h => by cases h), (fun h => by cases h), H8.out, (fun h => by cases h), HZ0.out, (fun h => by cases h), (fun h => by cases h), HMM.out.callOwn hb' hO' (by simp [i64s])⟩
      · obtain ⟨rfl, rfl, rfl, rfl, rfl⟩ : f15 = false ∧ f16 = false ∧ f17 = false ∧ f19 = false ∧ f20 = false := by have := HST.out; revert this; cases f15 <;> cases f16 <;> cases f17 <;> cases f19 <;> cases f20 <;> simp [st1]
        obtain rfl := H30.out rfl
        refine wpOp_step rfl (fun K hK => ?_)
        have HK := Lib.hid hK
        clear hK
        go_simp
        exact HK.out _ _ ⟨true, true, false, false, false, f18, false, false, false, _, _, x31, x32, x33, x8, x9, x10, vr, z, b8, rfl, rfl, by cases f18 <;> rfl, (fun _ => rfl), (fun _ => rfl), (fun h => by cases h), (fun h => by cases h), (fun h => by cases h), H8.out, (fun h => by cases h), HZ0.out, (fun h => by cases h), (fun h => by cases h), HMM.out⟩
      · obtain ⟨rfl, rfl⟩ : f13 = true ∧ f19 = false := by have := HST.out; revert this; cases f13 <;> cases f19 <;> simp [st1]
        obtain rfl := H16.out rfl
        refine wpOp_step rfl (fun K hK => ?_)
        have HK := Lib.hid hK
        clear hK
        go_simp
        exact HK.out _ _ ⟨true, true, true, f16, f17, f18, false, f20, false, x30, _, _, x32, x33, x8, x9, x10, vr, z, b8, rfl, rfl, by have := HST.out; revert this; cases f20 <;> simp [st1], H30.out, (fun _ => rfl), (fun _ => rfl), H32.out, H33.out, H8.out, (fun h => by cases h), HZ0.out, H9.out, (fun h => by cases h), HMM.out⟩
      · obtain ⟨rfl, rfl⟩ : f13 = true ∧ f20 = false := by have := HST.out; revert this; cases f13 <;> cases f20 <;> simp [st1]
        obtain rfl := H16.out rfl
        refine wpOp_step rfl (fun K hK => ?_)
        have HK := Lib.hid hK
        clear hK
        go_simp
        exact HK.out _ _ ⟨true, true, f15, true, f17, f18, f19, false, false, x30, _, x31, _, x33, x8, x9, x10, vr, z, b8, rfl, rfl, by have := HST.out; revert this; cases f15 <;> cases f18 <;> cases f19 <;> simp [st1], H30.out, (fun _ => rfl), H31.out, (fun _ => rfl), H33.out, H8.out, HZ1.out, HZ0.out, (fun h => by cases h), (fun h => by cases h), HMM.out⟩
      · obtain rfl : f13 = true := by have := HST.out; revert this; cases f13 <;> simp [st1]
        obtain rfl := H16.out rfl
        refine wpOp_step rfl (fun K hK => ?_)
        have HK := Lib.hid hK
        clear hK
        go_simp
        exact HK.out _ _ ⟨true, true, f15, f16, true, f18, f19, f20, false, x30, _, x31, x32, _, x8, x9, x10, vr, z, b8, rfl, rfl, by have := HST.out; revert this; cases f15 <;> cases f16 <;> cases f18 <;> cases f19 <;> cases f20 <;> simp [st1], H30.out, (fun _ => rfl), H31.out, H32.out, (fun _ => rfl), H8.out, HZ1.out, HZ0.out, H9.out, (fun h => by cases h), HMM.out⟩
      · obtain ⟨rfl, rfl⟩ : f19 = false ∧ f20 = false := by have := HST.out; revert this; cases f19 <;> cases f20 <;> simp [st1]
        obtain rfl := HZ0.out rfl
        refine wpOp_step rfl (fun K hK => ?_)
        have HK := Lib.hid hK
        clear hK
        go_simp
        exact HK.out _ _ ⟨f13, f14, f15, f16, f17, true, false, false, false, x30, x16, x31, x32, x33, _, x9, x10, vr, _, W.heap.size, rfl, rfl, by have := HST.out; revert this; cases f13 <;> cases f14 <;> cases f15 <;> cases f16 <;> cases f17 <;> simp [st1], H30.out, H16.out, H31.out, H32.out, H33.out, (fun _ => rfl), (fun h => by cases h), (fun _ => rfl), (fun h => by cases h), (fun h => by cases h), HMM.out.alloc #[.slice none 0 0] 26⟩
      · obtain ⟨rfl, rfl, rfl⟩ : f13 = true ∧ f14 = true ∧ f20 = false := by have := HST.out; revert this; cases f13 <;> cases f14 <;> cases f20 <;> simp [st1]
        obtain rfl := H31.out rfl
        obtain rfl := H8.out rfl
        have hO := HMM.out.own _ (mem_of_get (i := 0) rfl)
        simp only at hO
        obtain ⟨ar, cr, e31, -⟩ := (OwnI.of_row hO).form
        subst e31
        have c0 := (HMM.out.at 0 rfl).cell' (i := 0) rfl
        have f0 := (HMM.out.at 0 rfl).free 0
        have hM2 := HMM.out.setCell 0 rfl 0 (.slice ar rs.length cr)
        have HM2 := Lib.hid hM2
        refine wpOp_step rfl (fun K hK => ?_)
        have HK := Lib.hid hK
        clear hK hM2 hO
        go_simp
        exact HK.out _ _ ⟨true, true, true, f16, f17, true, true, false, false, x30, x16, _, x32, x33, _, x9, x10, _, .slice ar rs.length cr, b8, rfl, rfl, by cases f16 <;> cases f17 <;> rfl, H30.out, H16.out, (fun _ => rfl), H32.out, H33.out, (fun _ => rfl), (fun _ => rfl), (fun h => by cases h), (fun h => by cases h), (fun h => by cases h), HM2.out⟩
      · obtain rfl := H32.out rfl
        refine wpOp_step rfl (fun K hK => ?_)
        have HK := Lib.hid hK
        clear hK
        go_simp
        exact HK.out _ _ ⟨f13, f14, f15, true, f17, f18, true, true, false, x30, x16, x31, _, x33, x8, _, x10, vr, z, b8, rfl, rfl, by have := HST.out; revert this; cases f13 <;> cases f14 <;> cases f15 <;> cases f17 <;> cases f18 <;> simp [st1], H30.out, H16.out, H31.out, (fun _ => rfl), H33.out, H8.out, HZ1.out, HZ0.out, (fun _ => rfl), (fun h => by cases h), HMM.out⟩
      · obtain rfl := H33.out rfl
        refine wpOp_step rfl (fun K hK => ?_)
        have HK := Lib.hid hK
        clear hK
        go_simp
        exact HK.out _ _ ⟨f13, f14, f15, f16, true, f18, f19, true, true, x30, x16, x31, x32, _, x8, x9, _, vr, z, b8, rfl, rfl, by have := HST.out; revert this; cases f13 <;> cases f14 <;> cases f15 <;> cases f16 <;> cases f18 <;> cases f19 <;> simp [st1], H30.out, H16.out, H31.out, H32.out, (fun _ => rfl), H8.out, HZ1.out, HZ0.out, H9.out, (fun _ => rfl), HMM.out⟩
  subst hall
  obtain ⟨rfl, rfl, rfl, rfl, rfl, rfl, rfl, rfl⟩ : f13 = true ∧ f14 = true ∧ f15 = true ∧ f16 = true ∧ f17 = true ∧ f18 = true ∧ f19 = true ∧ f20 = true := by revert hst; cases f13 <;> cases f14 <;> cases f15 <;> cases f16 <;> cases f17 <;> cases f18 <;> cases f19 <;> cases f20 <;> simp [st1]
  obtain rfl := h31 rfl
  obtain rfl := hz1 rfl
  obtain rfl := h32 rfl
  obtain rfl := h33 rfl
  obtain rfl := h8 rfl
  obtain rfl := h9 rfl
  obtain rfl := h10 rfl
  clear hst h30 h16 h31 h32 h33 h8 hz1 hz0 h9 h10
  left
  intro n' hn'
  clear hn'
  have hO := hM.own _ (mem_of_get (i := 0) rfl)
  simp only at hO
  obtain ⟨ar, cr, evr, -⟩ := (OwnI.of_row hO).form
  subst evr
  have HM2 : Hid (Mm wd.heap.size wd W [(b8, [.slice ar rs.length cr], 26)] [(.slice ar rs.length cr, 2, i64s rs)]) := hM
  clear hO hM
  refine AnyS.done (by kernel_rfl) ?_ _
  obtain ⟨W1, hW1⟩ : ∃ W1, W1 = W := ⟨_, rfl⟩
  subst hW1
  have hS1 := (HSR.out W1 HM2.out.below).1
  have hF1 := (HSR.out W1 HM2.out.below).2
  have HF1 := Lib.hid hF1
  have HS1 := Lib.hid hS1
  clear hF1 hS1 HSK HRO HSR HM
  cases hr : retR m g x with
  | none =>
    have e := HRI.out.trans (show retI m g x = ([], 0, 3) by rw [retI, hr])
    simp only [Prod.mk.injEq] at e
    obtain ⟨rfl, rfl, rfl⟩ := e
    have HC : Hid (ordC m sub P g x = .lim) := by show _ = _; unfold ordC; rw [hr]
    clear hr
    go_wp2_with fail
    go_ret2
    rw [HC.out]
    exact ⟨gp, c, s, f, x0, k0, HS1.out, HF1.out, rfl⟩
  | some pr =>
    obtain ⟨r, kk⟩ := pr
    have e := HRI.out.trans (show retI m g x = (r, (kk : Int), 0) by rw [retI, hr])
    simp only [Prod.mk.injEq] at e
    obtain ⟨rfl, rfl, rfl⟩ := e
    have HG3 := Lib.hid (retR_good hok hwf HGW.out hx hr)
    have HR := Lib.hid hr
    clear hr HRI
    have hk3 := HG3.out.2.2
    go_wp2_with fail
    have hSd := HS1.out.drewN 1
    obtain ⟨Wd, hWd⟩ : ∃ W, W = W1.drew := ⟨_, rfl⟩
    have hSd' : SrM B w0 Wd G sb (.slice (some ⟨gp, 0, none⟩) (P.length + 1) c) s f hs (P ++ [(g, x0, k0)]) := by rw [hWd]; exact hSd
    have HFd : Hid (Fr w Wd sb (.slice (some ⟨gp, 0, none⟩) (P.length + 1) c) (.slice (some ⟨gp, 0, none⟩) (P.length + 1) c)) := by rw [hWd]; exact HF1.out.trans (Fr.of_below (w := W1) (w' := W1.drew) ⟨rfl, rfl, rfl, Nat.le_refl _, fun _ _ => rfl⟩ sb _)
    have HMd : Hid (Mm wd.heap.size wd Wd [(b8, [.slice ar rs.length cr], 26)] [(.slice ar rs.length cr, 2, i64s rs)]) := by rw [hWd]; exact HM2.out.drew
    refine region_S (fun W => Blk W sb [.pointer (some ⟨G, 0, none⟩), .slice (some ⟨gp, 0, none⟩) (P.length + 1) c, .string s, .int .i64 (f : Int)] 143) [] 18 rfl HMX.out hSd.blk (fun hU => ?_)
    rw [← hWd] at hU ⊢
    clear hWd hSd
    (refine AnyS.take (i := 0) rfl (by kernel_rfl) (by kernel_rfl) (by kernel_rfl) (by rfl) (fun _ _ _ h => h) (by rfl) (by intro w; go_simp; with_reducible rfl) hU (fun hU => ?_); (try simp only [Act.put, List.setIfInBounds_toArray, List.set_cons_zero, List.set_cons_succ]); refine AnyS.take (i := 1) rfl (by kernel_rfl) (by kernel_rfl) (by kernel_rfl) (by rfl) (fun _ _ _ h => h) (by rfl) (by intro w; go_simp; with_reducible rfl) hU (fun hU => ?_); (try simp only [Act.put, List.setIfInBounds_toArray, List.set_cons_zero, List.set_cons_succ]); refine AnyS.take (i := 2) rfl (by kernel_rfl) (by kernel_rfl) (by kernel_rfl) (by rfl) (fun _ _ _ h => h) (by rfl) (by intro w; go_simp; with_reducible rfl) hU (fun hU => ?_); (try simp only [Act.put, List.setIfInBounds_toArray, List.set_cons_zero, List.set_cons_succ]); refine AnyS.take (i := 4) rfl (by kernel_rfl) (by kernel_rfl) (by kernel_rfl) (by rfl) (fun _ _ _ h => h) (by rfl) (by intro w; go_simp; with_reducible rfl) hU (fun hU => ?_); (try simp only [Act.put, List.setIfInBounds_toArray, List.set_cons_zero, List.set_cons_succ]); refine AnyS.take (i := 5) rfl (by kernel_rfl) (by kernel_rfl) (by kernel_rfl) (by rfl) (fun _ _ _ h => h) (by rfl) (by intro w; go_simp; with_reducible rfl) hU (fun hU => ?_); (try simp only [Act.put, List.setIfInBounds_toArray, List.set_cons_zero, List.set_cons_succ]); refine AnyS.take (i := 6) rfl (by kernel_rfl) (by kernel_rfl) (by kernel_rfl) (by rfl) (fun _ _ _ h => h) (by rfl) (by intro w; go_simp; with_reducible rfl) hU (fun hU => ?_); (try simp only [Act.put, List.setIfInBounds_toArray, List.set_cons_zero, List.set_cons_succ]); refine AnyS.take (i := 9) rfl (by kernel_rfl) (by kernel_rfl) (by kernel_rfl) (by rfl) (fun _ _ _ h => h) (by rfl) (by intro w; go_simp; with_reducible rfl) hU (fun hU => ?_); (try simp only [Act.put, List.setIfInBounds_toArray, List.set_cons_zero, List.set_cons_succ]); refine AnyS.take (i := 10) rfl (by kernel_rfl) (by kernel_rfl) (by kernel_rfl) (by rfl) (fun _ _ _ h => h) (by rfl) (by intro w; go_simp; with_reducible rfl) hU (fun hU => ?_); (try simp only [Act.put, List.setIfInBounds_toArray, List.set_cons_zero, List.set_cons_succ]); refine AnyS.take (i := 11) rfl (by kernel_rfl) (by kernel_rfl) (by kernel_rfl) (by rfl) (fun _ _ _ h => h) (by rfl) (by intro w; go_simp; with_reducible rfl) hU (fun hU => ?_); (try simp only [Act.put, List.setIfInBounds_toArray, List.set_cons_zero, List.set_cons_succ]))
    (refine AnyS.takeS (i := 3) rfl (by kernel_rfl) (by kernel_rfl) (by kernel_rfl) (by rfl) (by kernel_rfl) (by kernel_rfl) (fun _ _ _ h => h) (by rfl) (by intro W hSw; have h1 := hSw.cell' (i := 1) rfl; clear hSw; go_simp; with_reducible rfl) hU (fun hU => ?_); (try simp only [Act.put, List.setIfInBounds_toArray, List.set_cons_zero, List.set_cons_succ]))
    (refine AnyS.take (i := 7) rfl (by kernel_rfl) (by kernel_rfl) (by kernel_rfl) (by rfl) (fun _ _ _ h => h) (by rfl) (by intro w; go_simp; with_reducible rfl) hU (fun hU => ?_); (try simp only [Act.put, List.setIfInBounds_toArray, List.set_cons_zero, List.set_cons_succ]))
    (refine AnyS.takeS (i := 8) rfl (by kernel_rfl) (by kernel_rfl) (by kernel_rfl) (by rfl) (by kernel_rfl) (by kernel_rfl) (fun _ _ _ h => h) (by rfl) (by intro W hSw; have h1 := hSw.cell' (i := 1) rfl; clear hSw; go_simp; with_reducible rfl) hU (fun hU => ?_); (try simp only [Act.put, List.setIfInBounds_toArray, List.set_cons_zero, List.set_cons_succ]))
    (refine AnyS.take (i := 12) rfl (by kernel_rfl) (by kernel_rfl) (by kernel_rfl) (by rfl) (fun _ _ _ h => h) (by rfl) (by intro w; go_simp; with_reducible rfl) hU (fun hU => ?_); (try simp only [Act.put, List.setIfInBounds_toArray, List.set_cons_zero, List.set_cons_succ]); refine AnyS.take (i := 13) rfl (by kernel_rfl) (by kernel_rfl) (by kernel_rfl) (by rfl) (fun _ _ _ h => h) (by rfl) (by intro w; go_simp; with_reducible rfl) hU (fun hU => ?_); (try simp only [Act.put, List.setIfInBounds_toArray, List.set_cons_zero, List.set_cons_succ]))
    have hDl : (P ++ [(g, x0, k0)]).length = P.length + 1 := by simp
    have ho := hSd'.own
    rw [hDl] at ho
    have hcl := cellsS_len hSd'.hl
    rw [hDl] at hcl
    have h1 := (ho.stored (P.length * 3 + 1) (.int .i64 (x : Int))).1
    obtain ⟨y1, c1⟩ : ∃ y, Wd.cell? ⟨gp, P.length * 3 + 1, none⟩ = some y := ⟨_, (ho.cellAt (P.length * 3 + 1) (by omega)).trans (List.getElem?_eq_getElem (by omega))⟩
    have f1 := ho.frozenAt (P.length * 3 + 1)
    obtain ⟨y2, c2⟩ : ∃ y, (Wd.setCell ⟨gp, P.length * 3 + 1, none⟩ (.int .i64 (x : Int))).cell? ⟨gp, P.length * 3 + 2, none⟩ = some y := ⟨_, (h1.cellAt (P.length * 3 + 2) (by omega)).trans (List.getElem?_eq_getElem (by rw [List.length_set]; omega))⟩
    have f2 := h1.frozenAt (P.length * 3 + 2)
    have hSL := hSd'.setLast x kk
    have HSL := Lib.hid hSL
    have hB1 := (heap_setCell_other Wd ⟨gp, P.length * 3 + 1, none⟩ sb (.int .i64 (x : Int)) (Ne.symm HGS.out.2.2)).trans hSd'.blk
    have HB1 := Lib.hid (show Blk (Wd.setCell ⟨gp, P.length * 3 + 1, none⟩ (.int .i64 (x : Int))) sb [.pointer (some ⟨G, 0, none⟩), .slice (some ⟨gp, 0, none⟩) (P.length + 1) c, .string s, .int .i64 (f : Int)] 143 from hB1)
    clear ho hcl h1 hSL hB1 hSd'
    (refine AnyS.branch (rs := [14]) (by kernel_rfl) (List.cons_ne_nil _ _) ?_; refine AllS.cons rfl ?_ AllS.nil; intro K hK)
    go_simp
    refine hK.out _ _ (.inl HB1.out) (fun hU => ?_)
    clear hK K c1 f1
    (try simp only [Act.put, List.setIfInBounds_toArray, List.set_cons_zero, List.set_cons_succ])
    (refine AnyS.take (i := 15) rfl (by kernel_rfl) (by kernel_rfl) (by kernel_rfl) (by rfl) (fun _ _ _ h => h) (by rfl) (by intro w; go_simp; with_reducible rfl) hU (fun hU => ?_); (try simp only [Act.put, List.setIfInBounds_toArray, List.set_cons_zero, List.set_cons_succ]); refine AnyS.take (i := 16) rfl (by kernel_rfl) (by kernel_rfl) (by kernel_rfl) (by rfl) (fun _ _ _ h => h) (by rfl) (by intro w; go_simp; with_reducible rfl) hU (fun hU => ?_); (try simp only [Act.put, List.setIfInBounds_toArray, List.set_cons_zero, List.set_cons_succ]))
    (refine AnyS.branch (rs := [17]) (by kernel_rfl) (List.cons_ne_nil _ _) ?_; refine AllS.cons rfl ?_ AllS.nil; intro K hK)
    go_simp
    refine hK.out _ _ (.inl HSL.out.1.blk) (fun hU => ?_)
    clear hK K c2 f2 HB1
    (try simp only [Act.put, List.setIfInBounds_toArray, List.set_cons_zero, List.set_cons_succ])
    refine AnyS.done (by kernel_rfl) ?_ _
    clear hU
    have hpl3 : (P ++ [(g, x, kk)]).length = P.length + 1 := by simp
    have hb8 := HMd.out.blk _ (mem_of_get (i := 0) rfl)
    have hO8 := HMd.out.own _ (mem_of_get (i := 0) rfl)
    simp only at hb8 hO8
    have hI8 := HMd.out.intsAt 0 rfl
    have har : ∀ ad, ar = some ad → ad.block ≠ sb ∧ (Value.slice (some ⟨gp, 0, none⟩) (P.length + 1) c).ownBlock ≠ some ad.block ∧ ad.block < Wd.heap.size := fun ad ea => by
      rcases hO8.2 with ⟨e, _⟩ | ⟨g8, c8, cur, e, h1, h2, -⟩
      · injection e with e1; rw [ea] at e1; cases e1
      · injection e with e1 e2 e3
        rw [ea] at e1; injection e1 with e1; subst e1
        have := HGS.out
        refine ⟨fun e => by simp only at e; omega, fun e => by simp [Value.ownBlock] at e; omega, (Array.getElem?_eq_some_iff.1 h2).1⟩
    have hw2 := HSL.out.2.wd hI8 har
    have HW2 := Lib.hid hw2
    have HF2 : Hid (Fr w ((Wd.setCell ⟨gp, P.length * 3 + 1, none⟩ (.int .i64 (x : Int))).setCell ⟨gp, P.length * 3 + 2, none⟩ (.int .i64 (kk : Int))) sb (.slice (some ⟨gp, 0, none⟩) (P.length + 1) c) (.slice (some ⟨gp, 0, none⟩) (P.length + 1) c)) := HFd.out.trans HSL.out.2
    have hc8 : ((Wd.setCell ⟨gp, P.length * 3 + 1, none⟩ (.int .i64 (x : Int))).setCell ⟨gp, P.length * 3 + 2, none⟩ (.int .i64 (kk : Int))).cell? ⟨b8, 0, none⟩ = some (.slice ar rs.length cr) := by
      have h1 := hb8.2.cell' (i := 0) rfl
      have hlt := World.block_lt_of_cell? _ _ h1
      have hne : b8 ≠ gp := by have := HGS.out.1; have := hb8.1; omega
      exact (World.cell?_of_block (HSL.out.2.block b8 hlt (by have := HGS.out.2.1; have := hb8.1; omega) (fun e => by simp [Value.ownBlock] at e; omega))).trans h1
    have HS2 := Lib.hid HSL.out.1
    have HB8 := Lib.hid hb8.1
    have HC8 := Lib.hid hc8
    clear hb8 hO8 hI8 har hw2 hc8 HSL HMd HFd HM2 HF1 HS1
    generalize (Wd.setCell ⟨gp, P.length * 3 + 1, none⟩ (.int .i64 (x : Int))).setCell ⟨gp, P.length * 3 + 2, none⟩ (.int .i64 (kk : Int)) = W2 at *
    have hCH := fun hm => ordC_hit (sub := sub) (P := P) HR.out hm
    have hCM := fun hm => ordC_miss (sub := sub) (P := P) HR.out hm
    have hPO : POk (P ++ [(g, x, kk)]) := fun p hp => by
      rcases List.mem_append.1 hp with h | h
      · exact HP.out p h
      · rw [List.mem_singleton.1 h]; exact hk3
    have hPL : ∀ p ∈ P ++ [(g, x, kk)], p.2.1 < 3 := fun p hp => by
      rcases List.mem_append.1 hp with h | h
      · exact HPL.out p h
      · rw [List.mem_singleton.1 h]; exact (by omega : x < 3)
    have hPQ : ∀ p ∈ P ++ [(g, x, kk)], p.1.length ≤ 40 := fun p hp => by
      rcases List.mem_append.1 hp with h | h
      · exact HQ.out p h
      · rw [List.mem_singleton.1 h]; exact hl
    obtain ⟨D, hD⟩ : ∃ D, D = P ++ [(g, x, kk)] := ⟨_, rfl⟩
    rw [← hD] at HS2 hPO hPL hPQ hpl3 hCH hCM
    have HD := Lib.hid hD
    have HPO := Lib.hid hPO
    have HPL2 := Lib.hid hPL
    have HPQ := Lib.hid hPQ
    have HDL := Lib.hid hpl3
    have HCH := Lib.hid hCH
    have HCM := Lib.hid hCM
    have HS2' : Hid (SrM B w0 W2 G sb (.slice (some ⟨gp, 0, none⟩) D.length c) s f hs D) := by rw [HDL.out]; exact HS2.out
    have HIX := Lib.hid (indexFuncS_any 156 enters_cycle1 #[.pointer (some ⟨b8, 0, none⟩)] gp (P.length + 1) c (by omega) (fun i => rowS (hs[i]?.getD undef) (D[i]?.getD ([], 0, 0))) (fun i => rfl) (fun i => decide ((D[i]?.getD ([], 0, 0)).1 = rs)) W2
      (fun i hi => by
        have hi' : i < D.length := by rw [HDL.out]; exact hi
        obtain ⟨a, c', e, -, hr⟩ := HS2'.out.row (List.getElem?_eq_getElem hi')
        rw [e, List.getElem?_eq_getElem hi']; exact hr)
      (fun W hW i hi => by
        have hi' : i < D.length := by rw [HDL.out]; exact hi
        obtain ⟨a, c', e, hI, -⟩ := HS2'.out.row (List.getElem?_eq_getElem hi')
        have h40 := HPQ.out _ (List.getElem_mem hi')
        have hr40 := HG3.out.2.1
        simp only [e, List.getElem?_eq_getElem hi', Option.getD_some]
        exact cycle1_any a ar c' cr b8 D[i] rs (by omega) (by omega) W (hI.keep hW) ((hW.cell (World.block_lt_of_cell? _ _ HC8.out)).trans HC8.out) (HW2.out.1.keep hW)))
    have hid := idxN_idxOf D rs
    rw [hpl3] at hid
    rw [hid] at HIX
    have c1 := HS2.out.blk.cell' (i := 1) rfl
    clear hid hCH hCM hPO hPL hPQ hD hpl3
    go_wp2_with fail
    refine HIX.out.mono ?_
    rintro e W3 ⟨rfl, hb3⟩
    have HS3 := Lib.hid (HS2.out.call hb3)
    have HF3 := Lib.hid (HF2.out.trans (Fr.of_below hb3 sb (.slice (some ⟨gp, 0, none⟩) (P.length + 1) c)))
    have HW3 : Hid (IntsAt W3 ar rs ∧ ∀ ad, ar = some ad → ad.block ≠ sb ∧ (Value.slice (some ⟨gp, 0, none⟩) (P.length + 1) c).ownBlock ≠ some ad.block ∧ ad.block < W3.heap.size) := (Fr.of_below hb3 sb (.slice (some ⟨gp, 0, none⟩) (P.length + 1) c)).wd HW2.out.1 HW2.out.2
    have HC83 : Hid (W3.cell? ⟨b8, 0, none⟩ = some (.slice ar rs.length cr)) := (hb3.cell (World.block_lt_of_cell? _ _ HC8.out)).trans HC8.out
    clear HIX HS2 HS2' HF2 HW2 HC8 hb3 c1
    by_cases hm : rs ∈ D.map (·.1)
    · have HCH2 := Lib.hid (HCH.out hm)
      have hti := List.idxOf_lt_length_iff.2 hm
      rw [if_pos hm]
      rw [List.length_map] at hti
      generalize (D.map (·.1)).idxOf rs = t at *
      have i6 : (0 : Int) ≤ (t : Int) := by omega
      have HAG := Lib.hid (again_any B w0 G sb gp c s f hs D t hti (by rw [HDL.out]; omega) HPO.out HPL2.out W3 (by rw [HDL.out]; exact HS3.out))
      clear hm HCH HCM
      go_wp2_with fail
      refine HAG.out.mono ?_
      rintro e W4 ⟨rfl, hb4⟩
      have HS4 := Lib.hid (HS3.out.call hb4)
      have HF4 := Lib.hid (HF3.out.trans (Fr.of_below hb4 sb (.slice (some ⟨gp, 0, none⟩) (P.length + 1) c)))
      clear HAG HS3 HF3 HW3 HC83 hb4
      by_cases h1 : 1 < pthF (D.drop t)
      · have HC : Hid (ordC m sub P g x = .inf ((D.drop t).map (·.2.1)) (pthF (D.drop t))) := HCH2.out.trans (if_pos h1)
        have c2 := HS4.out.blk.cell' (i := 2) rfl
        have c3 := HS4.out.blk.cell' (i := 3) rfl
        have f2 := HS4.out.blk.free 2
        have f3 := HS4.out.blk.free 3
        generalize pthF (D.drop t) = F at *
        generalize (D.drop t).map (·.2.1) = T at *
        have i8 : (1 : Int) < (F : Int) := by omega
        have HPR : Hid (SrM B w0 ((W4.setCell ⟨sb, 2, none⟩ (.string (txt T))).setCell ⟨sb, 3, none⟩ (.int .i64 (F : Int))) G sb (.slice (some ⟨gp, 0, none⟩) (P.length + 1) c) (txt T) F hs D ∧ Fr W4 ((W4.setCell ⟨sb, 2, none⟩ (.string (txt T))).setCell ⟨sb, 3, none⟩ (.int .i64 (F : Int))) sb (.slice (some ⟨gp, 0, none⟩) (P.length + 1) c) (.slice (some ⟨gp, 0, none⟩) (P.length + 1) c)) := HS4.out.setProof (txt T) F
        clear HCH2
        go_wp2_with fail
        go_ret2
        rw [HC.out]
        exact ⟨gp, c, txt T, F, x, kk, by rw [← HD.out]; exact HPR.out.1, HF4.out.trans HPR.out.2, rfl, rfl, rfl⟩
      · have HC : Hid (ordC m sub P g x = .ok kk) := HCH2.out.trans (if_neg h1)
        have i8 : ¬ ((1 : Int) < (pthF (D.drop t) : Int)) := by omega
        generalize pthF (D.drop t) = F at *
        clear HCH2
        go_wp2_with fail
        go_ret2
        rw [HC.out]
        exact ⟨gp, c, s, f, x, kk, by rw [← HD.out]; exact HS4.out, HF4.out, rfl⟩
    · have HCM2 := Lib.hid (HCM.out hm)
      rw [if_neg hm]
      clear hm HCH HCM
      have c1 := HS3.out.blk.cell' (i := 1) rfl
      rcases (show sub = none ∨ ∃ s, sub = some s by cases sub <;> simp) with hsub | ⟨sb2, hsub⟩
      · have h11 := HLIM.out.1 hsub
        have HC : Hid (ordC m sub P g x = .lim) := by show _ = _; rw [HCM2.out, hsub]
        clear hsub
        have j4 : ((P.length : Int) + 1 == 12) = true := by simp; omega
        go_wp2_with fail
        go_ret2
        rw [HC.out]
        exact ⟨gp, c, s, f, x, kk, by rw [← HD.out]; exact HS3.out, HF3.out, rfl⟩
      · have h11 : P.length ≠ 11 := fun h => by have := HLIM.out.2 h; rw [hsub] at this; cases this
        have j4 : ((P.length : Int) + 1 == 12) = false := by simp; omega
        have HCX : Hid (ordC m sub P g x = match sb2 D rs with
            | .ok n => if 1000000000000 < kk * n then .lim else .ok (kk * n)
            | e => e) := by show _ = _; rw [HCM2.out, hsub]; rfl
        have HSB := Lib.hid hsub
        clear hsub HCM2
        go_wp2_with fail
        have hSd := HS3.out.drewN 1
        obtain ⟨Wd, hWd⟩ : ∃ W, W = W3.drew := ⟨_, rfl⟩
        have HSd : Hid (SrM B w0 Wd G sb (.slice (some ⟨gp, 0, none⟩) (P.length + 1) c) s f hs D) := by rw [hWd]; exact hSd
        have hbd : Below W3.heap.size W3 Wd := by rw [hWd]; exact ⟨rfl, rfl, rfl, Nat.le_refl _, fun _ _ => rfl⟩
        have HFd := Lib.hid (HF3.out.trans (Fr.of_below hbd sb (.slice (some ⟨gp, 0, none⟩) (P.length + 1) c)))
        have HWd := Lib.hid ((Fr.of_below hbd sb (.slice (some ⟨gp, 0, none⟩) (P.length + 1) c)).wd HW3.out.1 HW3.out.2)
        have HSK2 : Hid (∀ W, Below Wd.heap.size Wd W → Blk W sb [.pointer (some ⟨G, 0, none⟩), .slice (some ⟨gp, 0, none⟩) (P.length + 1) c, .string s, .int .i64 (f : Int)] 143 ∧ W.cell? ⟨b8, 0, none⟩ = some (.slice ar rs.length cr)) := fun W hW => by
          have h1 : Wd.cell? ⟨b8, 0, none⟩ = some (.slice ar rs.length cr) := (hbd.cell (World.block_lt_of_cell? _ _ HC83.out)).trans HC83.out
          exact ⟨(HSd.out.call hW).blk, (hW.cell (World.block_lt_of_cell? _ _ h1)).trans h1⟩
        refine region_S (fun W => Blk W sb [.pointer (some ⟨G, 0, none⟩), .slice (some ⟨gp, 0, none⟩) (P.length + 1) c, .string s, .int .i64 (f : Int)] 143 ∧ W.cell? ⟨b8, 0, none⟩ = some (.slice ar rs.length cr)) [11] 12 rfl HMX.out (by rw [← hWd]; exact HSK2.out Wd (Below.refl _ _)) (fun hU => ?_)
        rw [← hWd] at hU ⊢
        clear hWd hSd hbd c1
        (refine AnyS.take (i := 0) rfl (by kernel_rfl) (by kernel_rfl) (by kernel_rfl) (by rfl) (fun _ _ _ h => h) (by rfl) (by intro w; go_simp; with_reducible rfl) hU (fun hU => ?_); (try simp only [Act.put, List.setIfInBounds_toArray, List.set_cons_zero, List.set_cons_succ]); refine AnyS.take (i := 1) rfl (by kernel_rfl) (by kernel_rfl) (by kernel_rfl) (by rfl) (fun _ _ _ h => h) (by rfl) (by intro w; go_simp; with_reducible rfl) hU (fun hU => ?_); (try simp only [Act.put, List.setIfInBounds_toArray, List.set_cons_zero, List.set_cons_succ]); refine AnyS.take (i := 2) rfl (by kernel_rfl) (by kernel_rfl) (by kernel_rfl) (by rfl) (fun _ _ _ h => h) (by rfl) (by intro w; go_simp; with_reducible rfl) hU (fun hU => ?_); (try simp only [Act.put, List.setIfInBounds_toArray, List.set_cons_zero, List.set_cons_succ]); refine AnyS.take (i := 3) rfl (by kernel_rfl) (by kernel_rfl) (by kernel_rfl) (by rfl) (fun _ _ _ h => h) (by rfl) (by intro w; go_simp; with_reducible rfl) hU (fun hU => ?_); (try simp only [Act.put, List.setIfInBounds_toArray, List.set_cons_zero, List.set_cons_succ]))
        (refine AnyS.takeS (i := 4) rfl (by kernel_rfl) (by kernel_rfl) (by kernel_rfl) (by rfl) (by kernel_rfl) (by kernel_rfl) (fun _ _ _ h => h) (by rfl) (by intro W hSw; have h1 := hSw.1.cell' (i := 1) rfl; clear hSw; go_simp; with_reducible rfl) hU (fun hU => ?_); (try simp only [Act.put, List.setIfInBounds_toArray, List.set_cons_zero, List.set_cons_succ]))
        (refine AnyS.takeS (i := 5) rfl (by kernel_rfl) (by kernel_rfl) (by kernel_rfl) (by rfl) (by kernel_rfl) (by kernel_rfl) (fun _ _ _ h => h) (by rfl) (by intro W hSw; have h1 := hSw.2; clear hSw; go_simp; with_reducible rfl) hU (fun hU => ?_); (try simp only [Act.put, List.setIfInBounds_toArray, List.set_cons_zero, List.set_cons_succ]))
        (refine AnyS.take (i := 6) rfl (by kernel_rfl) (by kernel_rfl) (by kernel_rfl) (by rfl) (fun _ _ _ h => h) (by rfl) (by intro w; go_simp; with_reducible rfl) hU (fun hU => ?_); (try simp only [Act.put, List.setIfInBounds_toArray, List.set_cons_zero, List.set_cons_succ]))
        obtain ⟨i0, hi, hz0, hz1, hz2⟩ := info_parts infoSr
        (refine AnyS.branch (rs := [7]) (by kernel_rfl) (List.cons_ne_nil _ _) ?_; refine AllS.cons rfl ?_ AllS.nil; intro K hK)
        go_simp
        have hb4 : Below Wd.heap.size Wd (Wd.alloc (.cells #[.slice ar rs.length cr, .int .i64 0, .int .i64 0] 140)) := (Below.refl _ _).alloc (Nat.le_refl _) _
        refine hK.out _ _ (.inl (HSK2.out _ hb4)) (fun hU => ?_)
        clear hK K
        (try simp only [Act.put, List.setIfInBounds_toArray, List.set_cons_zero, List.set_cons_succ])
        have HS4 := Lib.hid (HSd.out.call hb4)
        have HF4 := Lib.hid (HFd.out.trans (Fr.of_below hb4 sb (.slice (some ⟨gp, 0, none⟩) (P.length + 1) c)))
        have HW4 := Lib.hid ((Fr.of_below hb4 sb (.slice (some ⟨gp, 0, none⟩) (P.length + 1) c)).wd HWd.out.1 HWd.out.2)
        have hc84 := (HSK2.out _ hb4).2
        have hnb := Blk.new Wd #[.slice ar rs.length cr, .int .i64 0, .int .i64 0] 140
        clear HSK2 HSd HFd HWd HS3 HF3 HW3 HC83 hb4
        generalize Wd.alloc (.cells #[.slice ar rs.length cr, .int .i64 0, .int .i64 0] 140) = W4 at *
        generalize Wd.heap.size = bn at *
        have hown := HS4.out.own
        have hcl := cellsS_len HS4.out.hl
        rw [HDL.out] at hown hcl
        refine AnyS.branch (rs := [8]) (by kernel_rfl) (List.cons_ne_nil _ _) ?_
        refine AllS.cons rfl ?_ AllS.nil
        intro K hK
        refine step_append_lies W4 rfl (.tmp 90) (.tmp 93) 141 rfl B 140 i0 _ 3 40 Try.underlying141 hi hz0 hz1 hz2 rfl (by decide) (.slice (some ⟨gp, 0, none⟩) (P.length + 1) c) (P.length + 1) (cellsS hs D) rfl hown ⟨bn, 0, none⟩ 1 1 [.slice ar rs.length cr, .int .i64 0, .int .i64 0] rfl rfl (World.news_of_block hnb) (by simp [Value.oneCell']) (by omega) (by simp [maxLen]; omega) (by omega) HS4.out.size _ rfl ?_
        intro g' c' W5 hown' hgrow hlies hlt'
        have hPU := HS4.out.push HW4.out.1 HW4.out.2 (by rw [HDL.out]; exact hown') hgrow hlies
        rw [HDL.out] at hPU
        have HPU := Lib.hid hPU
        have HF6 := Lib.hid (HF4.out.trans hPU.2)
        have hbs := (hgrow.block sb HS4.out.lt (Ne.symm HS4.out.sep)).trans HS4.out.blk
        have hB5 : Blk W5 sb [.pointer (some ⟨G, 0, none⟩), .slice (some ⟨gp, 0, none⟩) (P.length + 1) c, .string s, .int .i64 (f : Int)] 143 := hbs
        have c5 := hB5.cell' (i := 1) rfl
        have f5 := hB5.free 1
        have hb85 : W5.cell? ⟨b8, 0, none⟩ = some (.slice ar rs.length cr) := by
          refine (World.cell?_of_block (hgrow.block b8 (World.block_lt_of_cell? _ _ hc84) ?_)).trans hc84
          intro e
          simp only [Value.ownBlock, Option.some.injEq] at e
          have := HB8.out; have := HGS.out.1; omega
        refine hK.out _ _ (.inl ⟨hB5, hb85⟩) (fun hU => ?_)
        clear hK K hown hcl hown' hgrow hlies hlt' hPU hbs hB5 hb85 hnb hc84 HS4 HF4 HW4
        (try simp only [Act.put, List.setIfInBounds_toArray, List.set_cons_zero, List.set_cons_succ])
        (refine AnyS.take (i := 9) rfl (by kernel_rfl) (by kernel_rfl) (by kernel_rfl) (by rfl) (fun _ _ _ h => h) (by rfl) (by intro w; go_simp; with_reducible rfl) hU (fun hU => ?_); (try simp only [Act.put, List.setIfInBounds_toArray, List.set_cons_zero, List.set_cons_succ]); refine AnyS.take (i := 10) rfl (by kernel_rfl) (by kernel_rfl) (by kernel_rfl) (by rfl) (fun _ _ _ h => h) (by rfl) (by intro w; go_simp; with_reducible rfl) hU (fun hU => ?_); (try simp only [Act.put, List.setIfInBounds_toArray, List.set_cons_zero, List.set_cons_succ]))
        (refine AnyS.branch (rs := [11]) (by kernel_rfl) (List.cons_ne_nil _ _) ?_; refine AllS.cons rfl ?_ AllS.nil; intro K hK)
        go_simp
        refine hK.out _ _ (.inr ⟨11, by simp, by rfl⟩) (fun hU => ?_)
        clear hK K c5 f5
        (try simp only [Act.put, List.setIfInBounds_toArray, List.set_cons_zero, List.set_cons_succ])
        refine AnyS.done (by kernel_rfl) ?_ _
        clear hU
        generalize W5.setCell ⟨sb, 1, none⟩ (.slice (some ⟨g', 0, none⟩) (P.length + 1 + 1) c') = W6 at *
        have HCALL := Lib.hid (HREC.out sb2 HSB.out D rs W6 g' c' s f (hs ++ [.slice ar rs.length cr]) 0 0 (by rw [HDL.out]) HPO.out HPQ.out HPL2.out HG3.out.1 HG3.out.2.1 (by rw [HDL.out]; exact HPU.out.1))
        have HSOK := Lib.hid (HSO.out sb2 HSB.out D rs HPO.out (by rw [HDL.out]))
        clear HREC HSO HSB HPU
        generalize sb2 D rs = E at *
        go_wp2_with fail
        refine HCALL.out.mono ?_
        rintro e W7 ⟨g7, c7, s7, f7, x7, k7, hS7, hF7, hR7⟩
        rw [HDL.out] at hS7 hF7
        have hF8 := HF6.out.trans hF7
        have hcap7 : P.length + 1 + 1 ≤ c7 := by
          rcases hS7.own.2 with ⟨e, _⟩ | ⟨g', cap, cur, e, h1, h2, h3, rest⟩
          · cases e
          · injection e with e1 e2 e3
            rw [List.length_append, HDL.out] at h3; simp at h3; omega
        have c8 := hS7.blk.cell' (i := 1) rfl
        have f8 := hS7.blk.free 1
        obtain ⟨hS9, hF9⟩ := SrM.cut (D := D) (by rw [HDL.out]; exact hS7)
        rw [HDL.out] at hS9 hF9
        have HS9 := Lib.hid hS9
        have HF9 := Lib.hid (hF8.trans hF9)
        have i4 : ((P.length : Int) + 1) ≤ (c7 : Int) := by omega
        have i5 : (0 : Int) ≤ (P.length : Int) + 1 := by omega
        have e1 : IntKind.i64.wrap ((P.length : Int) + 1) = (P.length : Int) + 1 := IntWalk.i64_in _ (by omega)
        clear hS7 hF7 hF8 hcap7 hS9 hF9 HCALL HF6
        cases E with
        | ok n2 =>
          obtain rfl : e = .returned (.tuple #[.int .i64 (n2 : Int), .int .i64 0]) := hR7
          have hb2 : 1 ≤ n2 ∧ n2 ≤ 1000000000000 := HSOK.out
          have hkn : kk * n2 ≤ 3000000000000 := Nat.mul_le_mul hk3.2 hb2.2
          have e12 : IntKind.i64.wrap ((kk : Int) * (n2 : Int)) = ((kk * n2 : Nat) : Int) := by rw [← Int.natCast_mul, IntWalk.i64_in _ (by omega)]
          have j5 : ((n2 : Int) == 0) = false := by simp; omega
          by_cases hbig : 1000000000000 < kk * n2
          · have HC : Hid (ordC m sub P g x = .lim) := HCX.out.trans (if_pos hbig)
            have j6 : (1000000000000 : Int) < ((kk * n2 : Nat) : Int) := by omega
            have j7 : (1000000000000 : Int) < (kk : Int) * (n2 : Int) := by rw [← Int.natCast_mul]; exact j6
            clear HCX hbig hkn
            go_wp2_with fail
            go_ret2
            rw [HC.out]
            exact ⟨g7, c7, s7, f7, x, kk, by rw [← HD.out]; exact HS9.out, HF9.out, rfl⟩
          · have HC : Hid (ordC m sub P g x = .ok (kk * n2)) := HCX.out.trans (if_neg hbig)
            have j6 : ¬ ((1000000000000 : Int) < ((kk * n2 : Nat) : Int)) := by omega
            have j7 : ¬ ((1000000000000 : Int) < (kk : Int) * (n2 : Int)) := by rw [← Int.natCast_mul]; exact j6
            clear HCX hbig hkn
            go_wp2_with fail
            go_ret2
            rw [HC.out]
            exact ⟨g7, c7, s7, f7, x, kk, by rw [← HD.out]; exact HS9.out, HF9.out, by show Ending.returned (.tuple #[.int .i64 ((kk : Int) * (n2 : Int)), .int .i64 0]) = .returned (.tuple #[.int .i64 ((kk * n2 : Nat) : Int), .int .i64 0]); rw [Int.natCast_mul]⟩
        | inf ls2 f2 =>
          obtain ⟨rfl, rfl, rfl⟩ : e = .returned (.tuple #[.int .i64 0, .int .i64 0]) ∧ s7 = txt ls2 ∧ f7 = f2 := hR7
          have HC : Hid (ordC m sub P g x = .inf ls2 f7) := HCX.out
          clear HCX
          go_wp2_with fail
          go_ret2
          rw [HC.out]
          exact ⟨g7, c7, _, f7, x, kk, by rw [← HD.out]; exact HS9.out, HF9.out, rfl, rfl, rfl⟩
        | lim =>
          obtain rfl : e = .returned (.tuple #[.int .i64 0, .int .i64 3]) := hR7
          have HC : Hid (ordC m sub P g x = .lim) := HCX.out
          clear HCX
          go_wp2_with fail
          go_ret2
          rw [HC.out]
          exact ⟨g7, c7, s7, f7, x, kk, by rw [← HD.out]; exact HS9.out, HF9.out, rfl⟩
end Go.Proofs.Yteagecoiijhflaa
