import Derived.Test.YthgkkaifdlkciaaYKind09
import Derived.Test.YthgkkaifdlkciaaYKind06
import Derived.Test.YthgkkaifdlkciaaYKind05
import Derived.Test.YthgkkaifdlkciaaYKind08
import Derived.Test.YthgkkaifdlkciaaYKind04
/- (*kinds).kind: the kind of a state of a machine without equal states, of the program. -/
namespace Go.Proofs.Ythgkkaifdlkciaa
open Go.RowKit
set_option linter.unusedVariables false
set_option linter.unusedSimpArgs false

def RetKd (M : Mch) (q D : Nat) (w : World) (e : Ending) (w' : World) : Prop := ∃ v, e = .returned v ∧ w.grownBy w' (some D) ∧ OwnI w' w.heap.size v [(kndM M q).1, (kndM M q).2]
theorem kndM_exp {M : Mch} {q : Nat} (h : M.tbl.expB (trivB M) q = true) : kndM M q = (2, 0) := if_pos h
theorem kndM_fin {M : Mch} {q : Nat} (h : M.tbl.expB (trivB M) q = false) (h2 : M.tbl.pasD (trivB M) q = 0) : kndM M q = (0, 0) := by unfold kndM; rw [if_neg (by simp [h])]; exact if_pos h2
theorem kndM_pol {M : Mch} {q : Nat} (h : M.tbl.expB (trivB M) q = false) (h2 : M.tbl.pasD (trivB M) q ≠ 0) : kndM M q = (1, (M.tbl.pasD (trivB M) q : Int) - 1) := by unfold kndM; rw [if_neg (by simp [h])]; exact if_neg h2
noncomputable def expC (M : Mch) (q r : Nat) : Bool := (decide (r = q) || M.tbl.rb q r) && decide ((M.tbl.cyL (trivB M) r).length < M.tbl.lines (trivB M) r)
theorem exp_hit {M : Mch} {q r : Nat} (hr : r < M.s) (h : expC M q r = true) : M.tbl.expB (trivB M) q = true := List.any_eq_true.2 ⟨r, List.mem_range.2 hr, h⟩
theorem exp_none {M : Mch} {q : Nat} (h : ∀ r, r < M.s → expC M q r = false) : M.tbl.expB (trivB M) q = false := by
  cases e : M.tbl.expB (trivB M) q with
  | false => rfl
  | true =>
    obtain ⟨r, hr, h2⟩ := List.any_eq_true.1 e
    have := h r (List.mem_range.1 hr)
    unfold expC at this
    rw [this] at h2; cases h2
theorem OwnI.newA (w : World) (y : Int) : OwnI (w.alloc (.cells #[.int .i64 y] 2)) w.heap.size (.slice (some ⟨w.heap.size, 0, none⟩) 1 1) [y] :=
  OwnI.of_row (((Mm.start w).newOwn #[.int .i64 y] 2 1 rfl (by omega)).own _ (mem_of_get (i := 0) rfl))
theorem OwnI.new2 (w : World) (x y : Int) : OwnI (w.alloc (.cells #[.int .i64 x, .int .i64 y] 2)) w.heap.size (.slice (some ⟨w.heap.size, 0, none⟩) 2 2) [x, y] :=
  OwnI.of_row (((Mm.start w).newOwn #[.int .i64 x, .int .i64 y] 2 2 rfl (by omega)).own _ (mem_of_get (i := 0) rfl))
theorem lines_le {M : Mch} (hok : M.Ok) (r : Nat) : M.tbl.lines (trivB M) r ≤ 1000 := by
  rw [← Tbl.linU_end]
  have h1 := Tbl.linU_le (t := M.tbl) (M.tbl.cyL (trivB M) r) (M.tbl.cyL (trivB M) r).length 0
  have h2 := Tbl.cyL_len (t := M.tbl) (tv := trivB M) r
  have h3 := hok.s_le
  have h4 := hok.l_le
  have h5 : (M.tbl.cyL (trivB M) r).length * M.tbl.d ≤ 16 * 3 := Nat.mul_le_mul (Nat.le_trans h2 h3) h4
  omega

set_option maxRecDepth 100000 in
set_option maxHeartbeats 400000 in
theorem kindM_any (M : Mch) (hwf : M.Wf) (hok : M.Ok) (htv : M.tbl.Tv (trivB M)) (K D c q : Nat) (hq : q < M.s) (w : World) (hK : KndD w K D c M) :
    Calls Try.prog 52 #[.pointer (some ⟨K, 0, none⟩), .int .i64 (q : Int)] w (RetKd M q D w) := by
  have hs16 := hok.s_le
  have HK := Lib.hid hK
  obtain ⟨T, t1, gN, cN, gO, cO, t2, -, -, -⟩ := hK.rd.uncut.tab
  obtain ⟨g2, c2, k3, k4⟩ := hK.rd.uncut.rch
  obtain ⟨g3, c3, k5, k6⟩ := k4 q hq
  have HT1 := Lib.hid t1
  have HT2 := Lib.hid t2
  have HK3 := Lib.hid k3
  have HK5 := Lib.hid k5
  have HK6 := Lib.hid k6
  have HHIT := Lib.hid (fun r h1 h2 => kndM_exp (exp_hit (M := M) (q := q) (r := r) h1 h2))
  have HFIN := Lib.hid (fun h h2 => kndM_fin (exp_none (M := M) (q := q) h) h2)
  have HPOL := Lib.hid (fun h h2 => kndM_pol (exp_none (M := M) (q := q) h) h2)
  have HCY : Hid (∀ r W, r < M.s → Below w.heap.size w W → Calls Try.prog 76 #[.pointer (some ⟨K, 0, none⟩), .int .i64 (r : Int)] W (RetCy M r W)) := fun r W hr hW => cycleK_any M hwf hok K r hr W (HK.out.keep hW).rd.uncut
  have HPS : Hid (∀ W, Below w.heap.size w W → Calls Try.prog 77 #[.pointer (some ⟨K, 0, none⟩), .int .i64 (q : Int)] W (RetPs M q D c W)) := fun W hW => passed_any M hwf hok htv K D c _ q hq (Nat.le_refl _) W (HK.out.keep hW)
  have hpb : M.tbl.pasD (trivB M) q ≤ 17 := Nat.le_trans (Tbl.pasF_le _ _ _ _) (by show M.s + 1 ≤ 17; omega)
  have HLI := Lib.hid (lines_le hok)
  have HCL : Hid (∀ r, (M.tbl.cyL (trivB M) r).length ≤ 16) := fun r => Nat.le_trans (Tbl.cyL_len (t := M.tbl) (tv := trivB M) r) hs16
  have HB0 : Hid (Below w.heap.size w w) := Below.refl _ _
  have q1 : (0 : Int) ≤ (q : Int) := by omega
  have q2 : (q : Int) < (M.s : Int) := by omega
  clear hK k3 k4 k5 k6
  go_enter Try.func52, Try.ntmps52
  go_wp2_with fail
  clear t1 t2
  go_loopw [17] (fun rv wr => ∃ r : Nat, r ≤ M.s ∧ rv = .int .i64 (r : Int) ∧ Hid (∀ r', r' < r → expC M q r' = false) ∧ Below w.heap.size w wr) (fun rv _ => M.s - (intOf rv).toNat)
  case atStart => exact ⟨0, Nat.zero_le _, rfl, fun r hr => by omega, HB0.out⟩
  case round =>
    clear HB0
    obtain ⟨r, hr, rfl, HN, hb⟩ := hrel
    have er : IntKind.i64.wrap ((r : Int) + 1) = (r : Int) + 1 := IntWalk.i64_in _ (by omega)
    by_cases hlt : r < M.s
    · have k3 := (hb.cell (World.block_lt_of_cell? _ _ HK3.out)).trans HK3.out
      have k5 := (hb.cell (World.block_lt_of_cell? _ _ HK5.out)).trans HK5.out
      have k6 := HK6.out r hlt
      have k6 := (hb.cell (World.block_lt_of_cell? _ _ k6)).trans k6
      have r1 : (0 : Int) ≤ (r : Int) := by omega
      have r2 : (r : Int) < (M.s : Int) := by omega
      have HCR := Lib.hid (HCY.out r wr hlt hb)
      have HEC : Hid (expC M q r = ((decide (r = q) || M.tbl.rb q r) && decide ((M.tbl.cyL (trivB M) r).length < M.tbl.lines (trivB M) r))) := rfl
      have HNX : Hid (expC M q r = false → ∀ r', r' < r + 1 → expC M q r' = false) := fun h r' hr' => by
        by_cases e : r' = r
        · rw [e]; exact h
        · exact HN.out r' (by omega)
      have HH := Lib.hid (HHIT.out r hlt)
      have HB := Lib.hid hb
      have hli := HLI.out r
      have hcl := HCL.out r
      generalize M.tbl.rb q r = bb at *
      clear hb
      by_cases hgo : (decide (r = q) || bb) = true
      · rw [hgo, Bool.true_and] at HEC
        have HCR2 : Hid (∀ e w', RetCy M r wr e w' → ∃ v, e = .returned (.tuple #[v, .int .i64 (M.tbl.lines (trivB M) r : Int)]) ∧ Below wr.heap.size wr w' ∧ ∃ a c, v = .slice a (M.tbl.cyL (trivB M) r).length c) := fun e w' ⟨v, h1, h2, h3⟩ => by
          obtain ⟨a, c, h4, -⟩ := h3.form
          rw [natsI_len] at h4
          exact ⟨v, h1, h2, a, c, h4⟩
        generalize M.tbl.lines (trivB M) r = ln at *
        generalize (M.tbl.cyL (trivB M) r).length = cl at *
        by_cases e : r = q
        case' pos =>
          have e1 : ((r : Int) != (q : Int)) = false := by simp; omega
          clear e hgo
        case' neg =>
          have e1 : ((r : Int) != (q : Int)) = true := by simp; omega
          have e2 : bb = true := by simpa [e] using hgo
          subst e2
          clear e hgo
        all_goals
          go_wp2_with fail
          refine HCR.out.mono ?_
          intro e w5 hR5
          obtain ⟨v, rfl, hb5, a5, c5, rfl⟩ := HCR2.out _ _ hR5
          have HB5 := Lib.hid (HB.out.trans (hb5.mono HB.out.size))
          clear HCR HCR2 hR5 hb5 k3 k5 k6
          by_cases hx : cl < ln
          · have HX : Hid (kndM M q = (2, 0)) := HH.out (by rw [HEC.out]; simpa using hx)
            have i3 : (cl : Int) < (ln : Int) := by omega
            have HO := Lib.hid ((OwnI.new2 w5 2 0).less HB5.out.size)
            have HB6 := Lib.hid (HB5.out.alloc HB5.out.size (.cells #[.int .i64 2, .int .i64 0] 2))
            clear HH HEC HNX
            go_wp2_with fail
            go_ret
            rw [RetKd, HX.out]
            exact ⟨_, rfl, HB6.out.grownD _, HO.out⟩
          · have HN2 := Lib.hid (HNX.out (by rw [HEC.out]; simpa using hx))
            have i3 : ¬ ((cl : Int) < (ln : Int)) := by omega
            clear HH HEC HNX
            go_wp2_with fail
            go_roundw
            case rel => exact ⟨r + 1, by omega, by go_num, HN2.out, HB5.out⟩
            case measure => simp [intOf] <;> omega
      · have e0 : r ≠ q := fun e => hgo (by simp [e])
        have e1 : ((r : Int) != (q : Int)) = true := by simp; omega
        have e2 : bb = false := by
          cases bb with
          | false => rfl
          | true => exact absurd (by simp) hgo
        subst e2
        have HN2 := Lib.hid (HNX.out (by rw [HEC.out]; simp [e0]))
        clear HH HEC HNX HCR hgo
        go_wp2_with fail
        go_roundw
        case rel => exact ⟨r + 1, by omega, by go_num, HN2.out, HB.out⟩
        case measure => simp [intOf] <;> omega
    · have hr' : r = M.s := by omega
      subst hr'
      have r2 : ¬ ((M.s : Int) < (M.s : Int)) := by omega
      have HP := Lib.hid (HPS.out wr hb)
      have HB := Lib.hid hb
      have HF := Lib.hid (HFIN.out HN.out)
      have HG := Lib.hid (HPOL.out HN.out)
      have HPD : Hid (∀ e w', RetPs M q D c wr e w' → e = .returned (.int .i64 (M.tbl.pasD (trivB M) q : Int)) ∧ wr.grownBy w' (some D)) := fun e w' h => ⟨h.1, h.2.1⟩
      generalize M.tbl.pasD (trivB M) q = p at *
      clear hb HN
      go_wp2_with fail
      refine HP.out.mono ?_
      intro e w5 hR5
      obtain ⟨rfl, hg5⟩ := HPD.out _ _ hR5
      have HG5 := Lib.hid ((HB.out.grownD (some D)).trans hg5)
      clear HP hR5 hg5
      by_cases h0 : p = 0
      · subst h0
        have HX := Lib.hid (HF.out rfl)
        have HO := Lib.hid ((OwnI.new2 w5 0 0).less HG5.out.size)
        have HG6 := Lib.hid (HG5.out.trans (((Below.refl _ _).alloc (Nat.le_refl _) (.cells #[.int .i64 0, .int .i64 0] 2) : Below w5.heap.size w5 _).grownD (some D)))
        clear HF HG
        go_wp2_with fail
        go_ret
        rw [RetKd, HX.out]
        exact ⟨_, rfl, HG6.out, HO.out⟩
      · have HX := Lib.hid (HG.out h0)
        have j1 : ((p : Int) == 0) = false := by simp; omega
        have ep : IntKind.i64.wrap ((p : Int) - 1) = (p : Int) - 1 := IntWalk.i64_in _ (by omega)
        have HO := Lib.hid ((OwnI.new2 w5 1 ((p : Int) - 1)).less HG5.out.size)
        have HG6 := Lib.hid (HG5.out.trans (((Below.refl _ _).alloc (Nat.le_refl _) (.cells #[.int .i64 1, .int .i64 ((p : Int) - 1)] 2) : Below w5.heap.size w5 _).grownD (some D)))
        clear HF HG h0
        go_wp2_with fail
        go_ret
        rw [RetKd, HX.out]
        exact ⟨_, rfl, HG6.out, HO.out⟩
end Go.Proofs.Ythgkkaifdlkciaa

/- A function's own memory in one bundle, the elements of its slices of any size. -/
namespace Go.Proofs.Ythgkkaifdlkciaa
open Go.RowKit
set_option linter.unusedVariables false
set_option linter.unusedSimpArgs false

theorem rowKeep {w w' : World} {B n sz : Nat} {E : TypeId} {v : Value} {xs : List Value} (h : w.ownsRow B E sz v n xs) (hb : Below w.heap.size w w') : w'.ownsRow B E sz v n xs := by
  have hg : w.grownBy w' none := ⟨hb.os, hb.tape, hb.output, hb.size, fun k hk _ => hb.block k hk⟩
  exact World.ownsRow.kept h hg (by by_cases e : v.ownBlock = none <;> simp [e])
/-- a slice with a row of its own: n elements of z cells each -/
structure Gr where
  v : Value
  E : TypeId
  z : Nat
  n : Nat
  cs : List Value
structure Mg (B : Nat) (w0 w : World) (L : List (Nat × List Value × TypeId)) (G : List Gr) : Prop where
  below : Below B w0 w
  size : B ≤ w.heap.size
  blk : ∀ x ∈ L, B ≤ x.1 ∧ Blk w x.1 x.2.1 x.2.2
  dist : L.Pairwise fun x y => x.1 ≠ y.1
  own : ∀ x ∈ G, w.ownsRow B x.E x.z x.v x.n x.cs
  sep : ∀ x ∈ G, ∀ y ∈ L, x.v.ownBlock ≠ some y.1
  gdist : G.Pairwise fun x y => ∀ b, x.v.ownBlock = some b → y.v.ownBlock ≠ some b

theorem Mg.start (w : World) : Mg w.heap.size w w [] [] :=
  ⟨Below.refl _ _, Nat.le_refl _, fun _ h => (by cases h), List.Pairwise.nil, fun _ h => (by cases h), fun _ h => (by cases h), List.Pairwise.nil⟩
section
variable {B : Nat} {w0 w : World} {L : List (Nat × List Value × TypeId)} {G : List Gr}

theorem Mg.ownlt (h : Mg B w0 w L G) {x : Gr} (hx : x ∈ G) {g : Nat} (hg : x.v.ownBlock = some g) : g < w.heap.size := (World.ownsRow.lt (h.own x hx) g hg).2
theorem Mg.call (h : Mg B w0 w L G) {w' : World} (hb : Below w.heap.size w w') : Mg B w0 w' L G :=
  ⟨h.below.trans (hb.mono h.size), Nat.le_trans h.size hb.size, fun x hx => ⟨(h.blk x hx).1, (h.blk x hx).2.keep hb⟩, h.dist, fun x hx => rowKeep (h.own x hx) hb, h.sep, h.gdist⟩
theorem Mg.drewN (h : Mg B w0 w L G) (n : Nat) : Mg B w0 (w.drewN n) L G := h.call ⟨rfl, rfl, rfl, Nat.le_refl _, fun _ _ => rfl⟩
theorem Mg.allocO (h : Mg B w0 w L G) (o : Obj) : Mg B w0 (w.alloc o) L G := h.call ((Below.refl _ _).alloc (Nat.le_refl _) _)
theorem Mg.alloc (h : Mg B w0 w L G) (cs : Array Value) (T : TypeId) : Mg B w0 (w.alloc (.cells cs T)) ((w.heap.size, cs.toList, T) :: L) G := by
  have h' := h.allocO (.cells cs T)
  refine ⟨h'.below, h'.size, fun x hx => ?_, List.pairwise_cons.2 ⟨fun y hy => ?_, h.dist⟩, h'.own, fun x hx y hy => ?_, h.gdist⟩
  · rcases List.mem_cons.1 hx with rfl | hx
    · exact ⟨h.size, Blk.new w cs T⟩
    · exact h'.blk x hx
  · have := (h.blk y hy).2.lt; simp only; omega
  · rcases List.mem_cons.1 hy with rfl | hy
    · intro e; have := h.ownlt hx e; omega
    · exact h.sep x hx y hy
theorem Mg.addNil (h : Mg B w0 w L G) (E : TypeId) (z : Nat) : Mg B w0 w L (⟨.slice none 0 0, E, z, 0, []⟩ :: G) := by
  refine ⟨h.below, h.size, h.blk, h.dist, fun x hx => ?_, fun x hx y hy => ?_, List.pairwise_cons.2 ⟨fun y hy b e => by simp [Value.ownBlock] at e, h.gdist⟩⟩
  · rcases List.mem_cons.1 hx with rfl | hx
    · exact World.ownsRow_nil _ _ _ _
    · exact h.own x hx
  · rcases List.mem_cons.1 hx with rfl | hx
    · simp [Value.ownBlock]
    · exact h.sep x hx y hy
theorem Mg.sub (h : Mg B w0 w L G) {L' : List (Nat × List Value × TypeId)} (hs : L'.Sublist L) : Mg B w0 w L' G :=
  ⟨h.below, h.size, fun x hx => h.blk x (hs.subset hx), h.dist.sublist hs, h.own, fun x hx y hy => h.sep x hx y (hs.subset hy), h.gdist⟩
theorem Mg.at (h : Mg B w0 w L G) (i : Nat) {x : Nat × List Value × TypeId} (hi : L[i]? = some x) : Blk w x.1 x.2.1 x.2.2 := (h.blk x (mem_of_get hi)).2
theorem Mg.row (h : Mg B w0 w L G) (i : Nat) {x : Gr} (hi : G[i]? = some x) : w.ownsRow B x.E x.z x.v x.n x.cs := h.own x (mem_of_get hi)
/-- cells of the block number i are written -/
theorem Mg.setCells (h : Mg B w0 w L G) (i : Nat) {b : Nat} {cs : List Value} {T : TypeId} (hi : L[i]? = some (b, cs, T)) (o : Nat) (vs : List Value) : Mg B w0 (w.setCells b o vs) (L.set i (b, splice cs o vs, T)) G := by
  have hb := h.blk _ (mem_of_get hi)
  have hsym : ∀ x y : Nat × List Value × TypeId, x.1 ≠ y.1 → y.1 ≠ x.1 := fun _ _ h => Ne.symm h
  have hsz : (w.setCells b o vs).heap.size = w.heap.size := size_setCells b vs w o
  refine ⟨below_setCells hb.1 vs h.below o, by rw [hsz]; exact h.size, fun x hx => ?_, ?_, fun x hx => ?_, fun x hx y hy => ?_, h.gdist⟩
  · rcases mem_set_of hx with rfl | ⟨j, hj, hx⟩
    · exact ⟨hb.1, hb.2.setCells vs o⟩
    · have := h.blk x (mem_of_get hx)
      exact ⟨this.1, this.2.setsOther (pairwise_get hsym h.dist hx hi hj) vs o⟩
  · have e : (L.set i (b, splice cs o vs, T)).map (·.1) = L.map (·.1) := by
      rw [List.map_set]
      apply List.ext_getElem?
      intro k
      by_cases hk : k = i
      · subst hk
        have hlt : k < L.length := (List.getElem?_eq_some_iff.1 hi).1
        rw [List.getElem?_set_self (by simpa using hlt), List.getElem?_map, hi]; rfl
      · rw [List.getElem?_set_ne (Ne.symm hk)]
    have hd : (L.map (·.1)).Pairwise (· ≠ ·) := List.pairwise_map.2 h.dist
    rw [← e] at hd
    exact List.pairwise_map.1 hd
  · have ho := h.own x hx
    refine ⟨ho.1, ?_⟩
    rcases ho.2 with hn | ⟨g, cap, cur, hv, h1, h2, rest⟩
    · exact .inl hn
    · have hg : Blk w g cur.toList x.E := by show _ = _; simpa using h2
      have hne : g ≠ b := fun e => h.sep x hx _ (mem_of_get hi) (by rw [hv, e]; rfl)
      have := hg.setsOther hne vs o
      exact .inr ⟨g, cap, cur, hv, h1, by simpa [Blk] using this, rest⟩
  · rcases mem_set_of hy with rfl | ⟨j, hj, hy⟩
    · exact h.sep x hx (b, cs, T) (mem_of_get hi)
    · exact h.sep x hx y (mem_of_get hy)
theorem Mg.setCell (h : Mg B w0 w L G) (i : Nat) {b : Nat} {cs : List Value} {T : TypeId} (hi : L[i]? = some (b, cs, T)) (o : Nat) (v : Value) : Mg B w0 (w.setCell ⟨b, o, none⟩ v) (L.set i (b, cs.set o v, T)) G := h.setCells i hi o [v]
/-- an append to the slice number i -/
theorem Mg.grow2 (h : Mg B w0 w L G) (i : Nat) {v v' : Value} {E z n n' : Nat} {xs ys : List Value} (hi : G[i]? = some ⟨v, E, z, n, xs⟩) {w' : World}
    (hown : w'.ownsRow B E z v' n' ys) (hgrow : w.grownBy w' v.ownBlock) (hlies : v'.ownBlock = v.ownBlock ∨ v'.ownBlock = some w.heap.size) :
    Mg B w0 w' L (G.set i ⟨v', E, z, n', ys⟩) := by
  have hv := mem_of_get hi
  have hsz := hgrow.size
  have hblock : ∀ k, k < w.heap.size → v.ownBlock ≠ some k → w'.heap[k]? = w.heap[k]? := fun k hk hne => hgrow.block k hk (Ne.symm hne)
  have hnb : ∀ k, k < w.heap.size → v.ownBlock ≠ some k → v'.ownBlock ≠ some k := fun k hk hne e => by
    rcases hlies with h' | h'
    · rw [h'] at e; exact hne e
    · rw [h'] at e; injection e with e; omega
  have hsym : ∀ x y : Gr, (∀ b, x.v.ownBlock = some b → y.v.ownBlock ≠ some b) → ∀ b, y.v.ownBlock = some b → x.v.ownBlock ≠ some b := fun x y h b e e' => h b e' e
  refine ⟨?_, by have := h.size; omega, fun x hx => ⟨(h.blk x hx).1, (hblock _ (h.blk x hx).2.lt (h.sep _ hv x hx)).trans (h.blk x hx).2⟩, h.dist, fun x hx => ?_, fun x hx y hy => ?_, ?_⟩
  · refine ⟨hgrow.os.trans h.below.os, hgrow.tape.trans h.below.tape, hgrow.output.trans h.below.output, by have := h.below.size; omega, fun k hk => ?_⟩
    have hkw : k < w.heap.size := by have := h.size; omega
    exact (hblock k hkw (fun e => by have := (World.ownsRow.lt (h.own _ hv) k e).1; omega)).trans (h.below.block k hk)
  · rcases mem_set_of hx with rfl | ⟨j, hj, hx⟩
    · exact hown
    · have ho := h.own x (mem_of_get hx)
      refine ⟨ho.1, ?_⟩
      rcases ho.2 with hn | ⟨g', cap', cur, hv', h1, h2, rest⟩
      · exact .inl hn
      · have hlt := h.ownlt (mem_of_get hx) (by rw [hv']; rfl : x.v.ownBlock = some g')
        exact .inr ⟨g', cap', cur, hv', h1, (hblock g' hlt (pairwise_get hsym h.gdist hx hi hj g' (by rw [hv']; rfl))).trans h2, rest⟩
  · rcases mem_set_of hx with rfl | ⟨j, hj, hx⟩
    · exact hnb _ (h.blk y hy).2.lt (h.sep _ hv y hy)
    · exact h.sep x (mem_of_get hx) y hy
  · rw [List.pairwise_iff_getElem]
    intro a b ha' hb' hab c e
    simp only [List.getElem_set] at e ⊢
    simp only [List.length_set] at ha' hb'
    by_cases e1 : i = a
    · subst e1
      simp only [if_true] at e
      rw [if_neg (by omega)]
      intro e2
      have hlt := h.ownlt (List.getElem_mem hb') e2
      exact hnb c hlt (pairwise_get hsym h.gdist (List.getElem?_eq_getElem hb') hi (by omega) c e2) e
    · rw [if_neg e1] at e
      by_cases e2 : i = b
      · subst e2
        simp only [if_true]
        have hlt := h.ownlt (List.getElem_mem ha') e
        exact hnb c hlt (pairwise_get hsym h.gdist (List.getElem?_eq_getElem ha') hi (by omega) c e)
      · rw [if_neg e2]
        exact (List.pairwise_iff_getElem.1 h.gdist) a b ha' hb' hab c e
/-- 'out = append(out, u)', u one element in a block just made, to the slice number i -/
theorem Mg.append {P : Program} {ops : Array Oper} {rest : List Oper} {o : Oper} {a : Act} {Q : Exit → Act → World → Prop} (hgd : o.guard = none) (s x : Operand) (t : TypeId)
    (ho : o.op = .call { callee := .builtin .append, args := #[s, x], argTypes := #[t, t] })
    (h : Mg B w0 w L G) (i : Nat) {v : Value} {E sz n : Nat} {xs : List Value} (hi : G[i]? = some ⟨v, E, sz, n, xs⟩) {i0 : TypeInfo} {z : Value} {bytes : Nat} (ht : P.underlying t = some (.slice E)) (hI : P.info? E = some i0) (hz : i0.zero = some z)
    (hsize : i0.size = sz) (hby : i0.bytes = bytes) (hzs : z.cells.size = sz) (hp : 0 < sz) {us : Array Value} (hul : us.toList.length = sz) (hs : a.eval s = v) (b : Nat) (hb : w.heap.size = b) (hx : a.eval x = .slice (some ⟨b, 0, none⟩) 1 1) (hu : ∀ u ∈ us.toList, u.oneCell' = true)
    (hlen : n ≤ 1000000) (hbytes : bytes ≤ 1000)
    (hk : ∀ g cap w', Mg B w0 w' L (G.set i ⟨.slice (some ⟨g, 0, none⟩) (n + 1) cap, E, sz, n + 1, xs ++ us.toList⟩) → wpList P ops Q rest (a.put o.dst (.slice (some ⟨g, 0, none⟩) (n + 1) cap)) w') :
    wpList P ops Q (o :: rest) a (w.alloc (.cells us E)) := by
  subst hb
  have h2 := h.allocO (.cells us E)
  refine wpList_append_lies _ hgd s x t ho B E i0 z sz bytes ht hI hz hsize hby hzs hp v n xs hs (World.ownsRow.alloc (h.row i hi) _) ⟨w.heap.size, 0, none⟩ 1 1 us.toList hx (by omega) ?_ hu (by omega) ?_ ?_ h2.size _ rfl ?_
  · intro j y hj
    have hb := Blk.new w us E
    have hadd : (⟨w.heap.size, 0, none⟩ : Addr).add j = ⟨w.heap.size, j, none⟩ := by unfold Addr.add; split <;> simp_all
    rw [hadd]
    exact hb.cell' hj
  · simp [maxLen]; omega
  · calc (n + 1) * bytes ≤ 1000001 * 1000 := Nat.mul_le_mul (by omega) hbytes
      _ ≤ _ := by omega
  · intro g cap w' hown hgrow hlies hlt
    exact hk g cap w' (h2.grow2 i hi hown hgrow (by
      rcases hlies with e | e
      · exact .inl e.symm
      · exact .inr (by rw [e]; rfl)))
/-- the same, the element's cells spelt as P -/
theorem Mg.appendA {P : Program} {ops : Array Oper} {rest : List Oper} {o : Oper} {a : Act} {Q : Exit → Act → World → Prop} (hgd : o.guard = none) (s x : Operand) (t : TypeId)
    (ho : o.op = .call { callee := .builtin .append, args := #[s, x], argTypes := #[t, t] })
    (h : Mg B w0 w L G) (i : Nat) {v : Value} {E sz n : Nat} {xs : List Value} (hi : G[i]? = some ⟨v, E, sz, n, xs⟩) {i0 : TypeInfo} {z : Value} {bytes : Nat} (ht : P.underlying t = some (.slice E)) (hI : P.info? E = some i0) (hz : i0.zero = some z)
    (hsize : i0.size = sz) (hby : i0.bytes = bytes) (hzs : z.cells.size = sz) (hp : 0 < sz) (ps : List Value) {us : Array Value} (hus : us.toList = ps) (hul : ps.length = sz) (hs : a.eval s = v) (b : Nat) (hb : w.heap.size = b) (hx : a.eval x = .slice (some ⟨b, 0, none⟩) 1 1) (hu : ∀ u ∈ ps, u.oneCell' = true)
    (hlen : n ≤ 1000000) (hbytes : bytes ≤ 1000)
    (hk : ∀ g cap w', Mg B w0 w' L (G.set i ⟨.slice (some ⟨g, 0, none⟩) (n + 1) cap, E, sz, n + 1, xs ++ ps⟩) → wpList P ops Q rest (a.put o.dst (.slice (some ⟨g, 0, none⟩) (n + 1) cap)) w') :
    wpList P ops Q (o :: rest) a (w.alloc (.cells us E)) := by
  subst hus
  exact Mg.append hgd s x t ho h i hi ht hI hz hsize hby hzs hp hul hs b hb hx hu hlen hbytes hk
theorem Mg.sl (h : Mg B w0 w L G) (i : Nat) {v : Value} {E z n : Nat} {xs : List Value} (hi : G[i]? = some ⟨v, E, z, n, xs⟩) : ∃ a c, v = .slice a n c := by
  have ho := h.row i hi
  simp only at ho
  rcases ho.2 with ⟨e, h0⟩ | ⟨g, cap, cur, e, -⟩
  · exact ⟨none, 0, by rw [h0]; exact e⟩
  · exact ⟨_, _, e⟩
end
end Go.Proofs.Ythgkkaifdlkciaa

/- append in one's own memory: what the old row still tells. -/
namespace Go.Proofs.Ythgkkaifdlkciaa
open Go.RowKit
set_option linter.unusedVariables false
set_option linter.unusedSimpArgs false

theorem run_keeps {P : Program} (w : World) (t ty : TypeId) (base : Nat) (e : TypeId) (i : TypeInfo) (z : Value) (size bytes : Nat) (ht : P.underlying t = some (.slice e)) (hi : P.info? e = some i) (hz : i.zero = some z)
    (hsize : i.size = size) (hby : i.bytes = bytes) (hzs : z.cells.size = size) (hsz : 0 < size) (v : Value) (n : Nat) (xs : List Value) (hown : w.ownsRow base e size v n xs)
    (ad : Addr) (m c : Nat) (news : List Value) (hl : news.length = m * size) (hnews : ∀ j u, news[j]? = some u → w.cell? (ad.add j) = some u) (h1 : ∀ u ∈ news, u.oneCell' = true)
    (hm : 0 < m) (h63 : n + m ≤ maxLen) (hbytes : (n + m) * bytes ≤ 140737488355328) (hbase : base ≤ w.heap.size) :
    ∃ g cap w', (Builtin.append_ #[t, t] ty #[v, .slice (some ad) m c]).run P w = .ok (.slice (some ⟨g, 0, none⟩) (n + m) cap) w' ∧
      w'.ownsRow base e size (.slice (some ⟨g, 0, none⟩) (n + m) cap) (n + m) (xs ++ news) ∧ w.grownBy w' v.ownBlock ∧ (v.ownBlock = some g ∨ (g = w.heap.size ∧ ∀ k, k < w.heap.size → w'.heap[k]? = w.heap[k]?)) := by
  obtain ⟨g, cap, w', hr, h2, h3, h4, -⟩ := run_append_lies (P := P) w t ty base e i z size bytes ht hi hz hsize hby hzs hsz v n xs hown ad m c news hl hnews h1 hm h63 hbytes hbase _ rfl
  refine ⟨g, cap, w', hr, h2, h3, ?_⟩
  rcases h4 with h4 | h4
  · exact .inl h4
  · refine .inr ⟨h4, ?_⟩
    have hbig : n + m ≤ 9223372036854775807 := by simp only [maxLen] at h63; omega
    subst hsize hby
    rcases hown.2 with ⟨rfl, hn⟩ | ⟨g0, cap0, cur, rfl, hbg, hg, hnc, hcm, hcs, htake⟩
    · exact fun k hk => h3.block k hk (by simp [Value.ownBlock])
    · have hg0 : g0 < w.heap.size := (Array.getElem?_eq_some_iff.1 hg).1
      by_cases hroom : n + m ≤ cap0
      · have hfit : n * i.size + news.length ≤ cur.size := by rw [hl, hcs, ← Nat.add_mul]; exact Nat.mul_le_mul_right _ hroom
        have hr2 := run_append_room (P := P) w t ty e i ht hi g0 n cap0 cur hg ad m c news hl hnews h1 hroom hfit
        rw [hr] at hr2
        injection hr2 with e1 e2
        injection e1 with e1
        injection e1 with e1
        injection e1 with e1
        omega
      · have holds : ∀ j u, xs[j]? = some u → w.cell? ((⟨g0, 0, none⟩ : Addr).add j) = some u := hown.cells (g := g0) rfl
        have hr2 := run_append_grow (P := P) w t ty e i z ht hi hz ⟨g0, 0, none⟩ n cap0 xs hown.1 holds ad m c news hl hnews (by omega) (by omega) (growslice_fits (by omega) hbytes)
        rw [hr] at hr2
        injection hr2 with e1 e2
        subst e2
        exact fun k hk => Below.heap_alloc w.drew _ k hk
/-- cells that were there are there still, but for what lies behind the first n elements of v -/
def Old (w w' : World) (v : Value) (n z : Nat) : Prop := ∀ (k j : Nat) (u : Value), w.cell? ⟨k, j, none⟩ = some u → (v.ownBlock = some k → j < n * z) → w'.cell? ⟨k, j, none⟩ = some u
section
variable {B : Nat} {w0 w : World} {L : List (Nat × List Value × TypeId)} {G : List Gr}
/-- as Mg.appendA, with what the old row still tells -/
theorem Mg.appendO {P : Program} {ops : Array Oper} {rest : List Oper} {o : Oper} {a : Act} {Q : Exit → Act → World → Prop} (hgd : o.guard = none) (s x : Operand) (t : TypeId)
    (ho : o.op = .call { callee := .builtin .append, args := #[s, x], argTypes := #[t, t] })
    (h : Mg B w0 w L G) (i : Nat) {v : Value} {E sz n : Nat} {xs : List Value} (hi : G[i]? = some ⟨v, E, sz, n, xs⟩) {i0 : TypeInfo} {z : Value} {bytes : Nat} (ht : P.underlying t = some (.slice E)) (hI : P.info? E = some i0) (hz : i0.zero = some z)
    (hsize : i0.size = sz) (hby : i0.bytes = bytes) (hzs : z.cells.size = sz) (hp : 0 < sz) (ps : List Value) {us : Array Value} (hus : us.toList = ps) (hul : ps.length = sz) (hs : a.eval s = v) (b : Nat) (hb : w.heap.size = b) (hx : a.eval x = .slice (some ⟨b, 0, none⟩) 1 1) (hu : ∀ u ∈ ps, u.oneCell' = true)
    (hlen : n ≤ 1000000) (hbytes : bytes ≤ 1000)
    (hk : ∀ g cap w', Mg B w0 w' L (G.set i ⟨.slice (some ⟨g, 0, none⟩) (n + 1) cap, E, sz, n + 1, xs ++ ps⟩) → Old w w' v n sz → wpList P ops Q rest (a.put o.dst (.slice (some ⟨g, 0, none⟩) (n + 1) cap)) w') :
    wpList P ops Q (o :: rest) a (w.alloc (.cells us E)) := by
  subst hb hus
  have h2 := h.allocO (.cells us E)
  have hown := World.ownsRow.alloc (h.row i hi) (.cells us E)
  refine wpList_plain hgd fun K hK => ?_
  obtain ⟨g, cap, w', hr, a1, a2, a4⟩ := run_keeps (P := P) (w.alloc (.cells us E)) t o.type B E i0 z sz bytes ht hI hz hsize hby hzs hp v n xs hown ⟨w.heap.size, 0, none⟩ 1 1 us.toList (by omega) (fun j y hj => by
      have hb := Blk.new w us E
      have hadd : (⟨w.heap.size, 0, none⟩ : Addr).add j = ⟨w.heap.size, j, none⟩ := by unfold Addr.add; split <;> simp_all
      rw [hadd]
      exact hb.cell' hj) hu (by omega) (by simp [maxLen]; omega) (by
      calc (n + 1) * bytes ≤ 1000001 * 1000 := Nat.mul_le_mul (by omega) hbytes
        _ ≤ _ := by omega) h2.size
  have hM := h2.grow2 i hi a1 a2 (by
    rcases a4 with e | ⟨e, -⟩
    · exact .inl e.symm
    · exact .inr (by rw [e]; rfl))
  have hOld : Old w w' v n sz := fun k j u hc hlt => by
    have hkw : k < w.heap.size := World.block_lt_of_cell? w _ hc
    have hc2 : (w.alloc (.cells us E)).cell? ⟨k, j, none⟩ = some u := (World.cell?_of_block (w := w) (a := ⟨k, j, none⟩) (Below.heap_alloc w _ k hkw)).trans hc
    have hkw2 : k < (w.alloc (.cells us E)).heap.size := by simp; omega
    by_cases hv : v.ownBlock = some k
    · rcases a4 with e | ⟨e, h3⟩
      · rw [hv] at e; injection e with e; subst e
        -- in place
        have hj := hlt hv
        have hxl := hown.1
        have hxj : xs[j]? = some u := by
          have hj2 : j < xs.length := by rw [hxl]; exact hj
          have h5 := World.ownsRow.cells hown hv j xs[j] (List.getElem?_eq_getElem hj2)
          rw [show (⟨k, 0, none⟩ : Addr).add j = ⟨k, j, none⟩ by unfold Addr.add; split <;> simp_all] at h5
          rw [hc2] at h5
          rw [List.getElem?_eq_getElem hj2, h5]
        have h6 := World.ownsRow.cells a1 (g := k) rfl j u (by rw [List.getElem?_append_left (List.getElem?_eq_some_iff.1 hxj).1]; exact hxj)
        rwa [show (⟨k, 0, none⟩ : Addr).add j = ⟨k, j, none⟩ by unfold Addr.add; split <;> simp_all] at h6
      · exact (World.cell?_of_block (w := w.alloc (.cells us E)) (a := ⟨k, j, none⟩) (h3 k hkw2)).trans hc2
    · exact (World.cell?_of_block (w := w.alloc (.cells us E)) (a := ⟨k, j, none⟩) (a2.block k hkw2 (Ne.symm hv))).trans hc2
  unfold Oper.wp execOp
  simp only [ho, resolve, invoke, builtin, Sem.run_bind, Sem.run_pure, Result.andThen_ok, List.map_toArray, List.map_cons, List.map_nil, hs, hx, hr]
  exact hK _ _ (hk g cap w' hM hOld)
end
end Go.Proofs.Ythgkkaifdlkciaa

/- append of an element that lies in a block of one's own. -/
namespace Go.Proofs.Ythgkkaifdlkciaa
open Go.RowKit
set_option linter.unusedVariables false
set_option linter.unusedSimpArgs false
section
variable {B : Nat} {w0 w : World} {L : List (Nat × List Value × TypeId)} {G : List Gr}
theorem addr_add (g j : Nat) : (⟨g, 0, none⟩ : Addr).add j = ⟨g, j, none⟩ := by unfold Addr.add; split <;> simp_all
/-- as Mg.appendO; the element's cells lie in the block number q of L -/
theorem Mg.appendQ {P : Program} {ops : Array Oper} {o : Oper} {a : Act} {K : Act → World → Prop} {Q : Exit → Act → World → Prop} (hwd : Region.wanted o (yielded ops a.tmps) = true) (s x : Operand) (t : TypeId)
    (ho : o.op = .call { callee := .builtin .append, args := #[s, x], argTypes := #[t, t] })
    (h : Mg B w0 w L G) (i : Nat) {v : Value} {E sz n : Nat} {xs : List Value} (hi : G[i]? = some ⟨v, E, sz, n, xs⟩) {i0 : TypeInfo} {z : Value} {bytes : Nat} (ht : P.underlying t = some (.slice E)) (hI : P.info? E = some i0) (hz : i0.zero = some z)
    (hsize : i0.size = sz) (hby : i0.bytes = bytes) (hzs : z.cells.size = sz) (hp : 0 < sz) (q : Nat) {b : Nat} {ps : List Value} {T : TypeId} (hq : L[q]? = some (b, ps, T)) (hul : ps.length = sz) (hs : a.eval s = v) (hx : a.eval x = .slice (some ⟨b, 0, none⟩) 1 1) (hu : ∀ u ∈ ps, u.oneCell' = true)
    (hlen : n ≤ 1000000) (hbytes : bytes ≤ 1000)
    (hk : ∀ g cap w', Mg B w0 w' L (G.set i ⟨.slice (some ⟨g, 0, none⟩) (n + 1) cap, E, sz, n + 1, xs ++ ps⟩) → Old w w' v n sz → (v.ownBlock = some g ∨ w.heap.size ≤ g) → w.heap.size ≤ w'.heap.size → K (a.put o.dst (.slice (some ⟨g, 0, none⟩) (n + 1) cap)) w') :
    if Region.wanted o (yielded ops a.tmps) = true then Oper.wp P o a w K Q else K (a.put o.dst undef) w := by
  rw [if_pos hwd]
  have hown := h.row i hi
  obtain ⟨g, cap, w', hr, a1, a2, a4⟩ := run_keeps (P := P) w t o.type B E i0 z sz bytes ht hI hz hsize hby hzs hp v n xs hown ⟨b, 0, none⟩ 1 1 ps (by omega) (fun j y hj => by
      rw [addr_add]
      exact (h.at q hq).cell' hj) hu (by omega) (by simp [maxLen]; omega) (by
      calc (n + 1) * bytes ≤ 1000001 * 1000 := Nat.mul_le_mul (by omega) hbytes
        _ ≤ _ := by omega) h.size
  have hM := h.grow2 i hi a1 a2 (by
    rcases a4 with e | ⟨e, -⟩
    · exact .inl e.symm
    · exact .inr (by rw [e]; rfl))
  have hOld : Old w w' v n sz := fun k j u hc hlt => by
    have hkw : k < w.heap.size := World.block_lt_of_cell? w _ hc
    by_cases hv : v.ownBlock = some k
    · rcases a4 with e | ⟨e, h3⟩
      · rw [hv] at e; injection e with e; subst e
        have hj := hlt hv
        have hxl := hown.1
        simp only at hxl
        have hxj : xs[j]? = some u := by
          have hj2 : j < xs.length := by rw [hxl]; exact hj
          have h5 := World.ownsRow.cells hown hv j xs[j] (List.getElem?_eq_getElem hj2)
          rw [addr_add, hc] at h5
          rw [List.getElem?_eq_getElem hj2, h5]
        have h6 := World.ownsRow.cells a1 (g := k) rfl j u (by rw [List.getElem?_append_left (List.getElem?_eq_some_iff.1 hxj).1]; exact hxj)
        rwa [addr_add] at h6
      · exact (World.cell?_of_block (w := w) (a := ⟨k, j, none⟩) (h3 k hkw)).trans hc
    · exact (World.cell?_of_block (w := w) (a := ⟨k, j, none⟩) (a2.block k hkw (Ne.symm hv))).trans hc
  unfold Oper.wp execOp
  simp only [ho, resolve, invoke, builtin, Sem.run_bind, Sem.run_pure, Result.andThen_ok, List.map_toArray, List.map_cons, List.map_nil, hs, hx, hr]
  exact (hk g cap w' hM hOld (a4.imp id fun h => Nat.le_of_eq h.1.symm) a2.size)

end
end Go.Proofs.Ythgkkaifdlkciaa

/- BoundaryWords of the reference. -/
namespace Go.Proofs.Ythgkkaifdlkciaa
open Go.RowKit
set_option linter.unusedVariables false
set_option linter.unusedSimpArgs false

end Go.Proofs.Ythgkkaifdlkciaa

/- Tiles: which words of a level are joined; the program's table. -/
namespace Go.Proofs.Ythgkkaifdlkciaa
open Go.RowKit
set_option linter.unusedVariables false
set_option linter.unusedSimpArgs false

/-! pure -/
/-! tables of bools -/
theorem Try.info57 : (Try.prog.info? 57).map (fun i => (i.zero, i.size, i.bytes)) = some (some (.slice none 0 0), 1, 24) := by kernel_rfl
end Go.Proofs.Ythgkkaifdlkciaa

/- newKinds of the program. -/
namespace Go.Proofs.Ythgkkaifdlkciaa
open Go.RowKit
set_option linter.unusedVariables false
set_option linter.unusedSimpArgs false

theorem cutD_old {w1 w : World} {B D : Nat} (h : Below B w1 w) (hD : B ≤ D) : Below B w1 (cutD w D) :=
  ⟨h.os, h.tape, h.output, by rw [cutD_size]; exact h.size, fun k hk => (cutD_block (by omega)).trans (h.block k hk)⟩
theorem Mg.callBlk {B : Nat} {w0 w w' : World} {L : List (Nat × List Value × TypeId)} {G : List Gr} (h : Mg B w0 w L G) (hb : Below w.heap.size w w') {b : Nat} {cs : List Value} {T : TypeId} (hge : w.heap.size ≤ b) (hB : Blk w' b cs T) : Mg B w0 w' (L ++ [(b, cs, T)]) G := by
  have h' := h.call hb
  refine ⟨h'.below, h'.size, fun x hx => ?_, ?_, h'.own, fun x hx y hy => ?_, h'.gdist⟩
  · rcases List.mem_append.1 hx with hx | hx
    · exact h'.blk x hx
    · rw [List.mem_singleton.1 hx]; exact ⟨Nat.le_trans h.size hge, hB⟩
  · rw [List.pairwise_append]
    refine ⟨h.dist, by simp, fun x hx y hy => ?_⟩
    rw [List.mem_singleton.1 hy]
    have := (h.blk x hx).2.lt
    simp only; omega
  · rcases List.mem_append.1 hy with hy | hy
    · exact h.sep x hx y hy
    · rw [List.mem_singleton.1 hy]
      intro e
      have := h.ownlt hx e
      simp only at this; omega
theorem Mg.cellAtK {B : Nat} {w0 w : World} {L : List (Nat × List Value × TypeId)} {G : List Gr} {g cap E z n i : Nat} {xs : List Value} (h : Mg B w0 w L G) (hi : G[i]? = some ⟨.slice (some ⟨g, 0, none⟩) n cap, E, z, n, xs⟩) {j : Nat} {v : Value} (hv : xs[j]? = some v) : w.cell? ⟨g, j, none⟩ = some v := by
  have h2 := World.ownsRow.cells (h.row i hi) (g := g) rfl _ _ hv
  rwa [show (⟨g, 0, none⟩ : Addr).add j = ⟨g, j, none⟩ by unfold Addr.add; split <;> simp_all] at h2
theorem Mg.roomK {B : Nat} {w0 w : World} {L : List (Nat × List Value × TypeId)} {G : List Gr} (h : Mg B w0 w L G) (i : Nat) {v : Value} {E z n : Nat} {xs : List Value} (hi : G[i]? = some ⟨v, E, z, n, xs⟩) (hn : 0 < n) : ∃ g c, v = .slice (some ⟨g, 0, none⟩) n c ∧ n ≤ c ∧ c ≤ maxLen ∧ B ≤ g ∧ g < w.heap.size := by
  have ho := h.row i hi
  simp only at ho
  rcases ho.2 with ⟨_, h0⟩ | ⟨g, cap, cur, hv, hb, hg, h1, h2, -⟩
  · omega
  · exact ⟨g, cap, hv, h1, h2, hb, (Array.getElem?_eq_some_iff.1 hg).1⟩
theorem rep_one : ∀ k : Nat, repW [(-1 : Int)] k = List.replicate k (-1)
  | 0 => rfl
  | k + 1 => by rw [repW, rep_one k, List.replicate_succ']
/-- the rows of what is reached, so far -/
noncomputable def Lb (M : Mch) (bl : List Nat) : List (Nat × List Value × TypeId) := bl.zipIdx.map fun p => (p.1, bvs M.s (M.tbl.rb p.2), 4)
theorem Lb_snoc (M : Mch) (bl : List Nat) (b : Nat) : Lb M (bl ++ [b]) = Lb M bl ++ [(b, bvs M.s (M.tbl.rb bl.length), 4)] := by
  unfold Lb
  rw [List.zipIdx_append, List.map_append]; simp
theorem Lb_get {M : Mch} {bl : List Nat} {q b : Nat} (h : bl[q]? = some b) : (b, bvs M.s (M.tbl.rb q), 4) ∈ Lb M bl := by
  unfold Lb
  refine List.mem_map.2 ⟨(b, q), ?_, rfl⟩
  rw [List.mem_zipIdx_iff_getElem?]; exact h
def slB (M : Mch) (bl : List Nat) : List Value := bl.map fun b => .slice (some ⟨b, 0, none⟩) M.s M.s
def RetNK (M : Mch) (w : World) (e : Ending) (w' : World) : Prop := ∃ K D c, e = .returned (.pointer (some ⟨K, 0, none⟩)) ∧ Below w.heap.size w w' ∧ KndD w' K D c M ∧ w.heap.size ≤ D

set_option maxRecDepth 100000 in
set_option maxHeartbeats 400000 in
theorem newKinds_any (M : Mch) (hwf : M.Wf) (hok : M.Ok) (b : Nat) (w : World) (hm : MAt w b 0 M) :
    Calls Try.prog 51 #[.pointer (some ⟨b, 0, none⟩)] w (RetNK M w) := by
  have HMX := Lib.hid (show Try.prog.follows .mixedOrders = true by kernel_rfl)
  have hs16 := hok.s_le
  have hs1 := hok.s_pos
  have HTA := Lib.hid (table_any b 0 M hwf hok w hm)
  clear hm
  go_enter Try.func51, Try.ntmps51
  go_wp2_with fail
  refine HTA.out.mono ?_
  rintro e w1 ⟨T, rfl, hb1, hT1⟩
  have hTR := hT1.reads hs1
  have HTR := Lib.hid hTR
  have HB1 := Lib.hid hb1
  obtain ⟨gN, cN, gO, cO, t2, -, t4, -⟩ := id hTR
  have HT2 := Lib.hid t2
  have HT4 := Lib.hid t4
  clear HTA hb1 hT1 hTR t2 t4
  have HC2 : Hid (∀ W, Below w1.heap.size w1 W → W.cell? ⟨T, 0, none⟩ = some (.slice (some ⟨gN, 0, none⟩) M.s cN)) := fun W hW => (hW.cell (World.block_lt_of_cell? _ _ HT2.out)).trans HT2.out
  have HTV : Hid (∀ W, Below w1.heap.size w1 W → Calls Try.prog 59 #[.pointer (some ⟨T, 0, none⟩)] W (fun e w' => ∃ g, e = .returned (.slice (some ⟨g, 0, none⟩) M.s M.s) ∧ Below W.heap.size W w' ∧ Blk w' g (bvs M.s (trivB M)) 4)) := fun W hW => tableTrivial_any T M hwf hok W (HTR.out.keep hW)
  have HRP : Hid (∀ W b3 B, OwnI W B (.slice (some ⟨b3, 0, none⟩) 1 1) [-1] → Calls Try.prog 74 #[.slice (some ⟨b3, 0, none⟩) 1 1, .int .i64 (M.s : Int)] W (fun e w' => ∃ D c, e = .returned (.slice (some ⟨D, 0, none⟩) M.s c) ∧ Below W.heap.size W w' ∧ W.heap.size ≤ D ∧ D < w'.heap.size ∧ DegR w' D c M)) := fun W b3 B hO => by
    obtain ⟨a', c', ef, hI⟩ := hO.form
    injection ef with ef1 _ ef2
    rw [← ef1] at hI
    refine (repeat16_any (some ⟨b3, 0, none⟩) [-1] 1 M.s (by simp) hs1 hs16 W hI).mono ?_
    rintro e w' ⟨v, rfl, hb, hv⟩
    have hl : (repW [(-1 : Int)] M.s).length = M.s := by rw [rep_one]; simp
    have hv' := hv
    rw [OwnI, hl] at hv'
    obtain ⟨D, c, e1, -, -⟩ := World.ownsRow.form hv' hs1
    subst e1
    have hlt := World.ownsRow.lt hv D rfl
    refine ⟨D, c, rfl, hb, hlt.1, hlt.2, _, hl, hv.less (Nat.zero_le _), fun q hq => .inl ?_⟩
    rw [rep_one, List.getElem?_replicate, if_pos hq]; rfl
  have HM0 : Hid (Below w1.heap.size w1 w1.drew) := ⟨rfl, rfl, rfl, Nat.le_refl _, fun _ _ => rfl⟩
  go_wp2_with fail
  refine region_A (fun W => W.cell? ⟨T, 0, none⟩ = some (.slice (some ⟨gN, 0, none⟩) M.s cN)) [] 13 (fun W => Below w1.heap.size w1 W) rfl HMX.out HM0.out (fun W h => HC2.out W h) (fun W hW hU => ?_)
  clear HM0
  (refine AnyS.take (i := 0) rfl (by kernel_rfl) (by kernel_rfl) (by kernel_rfl) (by rfl) (fun _ _ _ h => h) (by rfl) (by intro w; go_simp; with_reducible rfl) hU (fun hU => ?_); (try simp only [Act.put, List.setIfInBounds_toArray, List.set_cons_zero, List.set_cons_succ]); refine AnyS.take (i := 1) rfl (by kernel_rfl) (by kernel_rfl) (by kernel_rfl) (by rfl) (fun _ _ _ h => h) (by rfl) (by intro w; go_simp; with_reducible rfl) hU (fun hU => ?_); (try simp only [Act.put, List.setIfInBounds_toArray, List.set_cons_zero, List.set_cons_succ]); refine AnyS.take (i := 4) rfl (by kernel_rfl) (by kernel_rfl) (by kernel_rfl) (by rfl) (fun _ _ _ h => h) (by rfl) (by intro w; go_simp; with_reducible rfl) hU (fun hU => ?_); (try simp only [Act.put, List.setIfInBounds_toArray, List.set_cons_zero, List.set_cons_succ]); refine AnyS.take (i := 5) rfl (by kernel_rfl) (by kernel_rfl) (by kernel_rfl) (by rfl) (fun _ _ _ h => h) (by rfl) (by intro w; go_simp; with_reducible rfl) hU (fun hU => ?_); (try simp only [Act.put, List.setIfInBounds_toArray, List.set_cons_zero, List.set_cons_succ]); refine AnyS.take (i := 6) rfl (by kernel_rfl) (by kernel_rfl) (by kernel_rfl) (by rfl) (fun _ _ _ h => h) (by rfl) (by intro w; go_simp; with_reducible rfl) hU (fun hU => ?_); (try simp only [Act.put, List.setIfInBounds_toArray, List.set_cons_zero, List.set_cons_succ]))
  (refine AnyS.takeS (i := 7) rfl (by kernel_rfl) (by kernel_rfl) (by kernel_rfl) (by rfl) (by kernel_rfl) (by kernel_rfl) (fun _ _ _ h => h) (by rfl) (by intro W hSw; go_simp; with_reducible rfl) hU (fun hU => ?_); (try simp only [Act.put, List.setIfInBounds_toArray, List.set_cons_zero, List.set_cons_succ]))
  (refine AnyS.take (i := 8) rfl (by kernel_rfl) (by kernel_rfl) (by kernel_rfl) (by rfl) (fun _ _ _ h => h) (by rfl) (by intro w; go_simp; with_reducible rfl) hU (fun hU => ?_); (try simp only [Act.put, List.setIfInBounds_toArray, List.set_cons_zero, List.set_cons_succ]))
  refine AnyS.branch (rs := [2, 3]) (by kernel_rfl) (by simp) (AllS.cons rfl (fun K hK => ?oA) (AllS.cons rfl (fun K hK => ?oB) AllS.nil))
  case' oA =>
    go_simp
    refine (HTV.out W hW).mono ?_
    rintro e Wa ⟨g1, rfl, hba, hB1⟩
    have hWa := hW.trans (hba.mono hW.size)
    refine hK.out _ _ (.inl (HC2.out _ hWa)) (fun hU => ?_)
    clear hK K hW hba
    (try simp only [Act.put, List.setIfInBounds_toArray, List.set_cons_zero, List.set_cons_succ])
    (refine AnyS.branch (rs := [3]) (by kernel_rfl) (List.cons_ne_nil _ _) ?_; refine AllS.cons rfl ?_ AllS.nil; intro K hK)
    have hbb : Below Wa.heap.size Wa (Wa.alloc (.cells #[.int .i64 (-1)] 2)) := (Below.refl _ _).alloc (Nat.le_refl _) _
    have hWb := hWa.trans (hbb.mono hWa.size)
    have hB2 := hB1.keep hbb
    have hO3 := OwnI.newA Wa (-1)
    go_simp
    refine hK.out _ _ (.inl (HC2.out _ hWb)) (fun hU => ?_)
    clear hK K hWa hbb hB1
    (try simp only [Act.put, List.setIfInBounds_toArray, List.set_cons_zero, List.set_cons_succ])
    generalize Wa.alloc (.cells #[.int .i64 (-1)] 2) = Wb at *
    generalize Wa.heap.size = b3 at *
  case' oB =>
    have hba : Below W.heap.size W (W.alloc (.cells #[.int .i64 (-1)] 2)) := (Below.refl _ _).alloc (Nat.le_refl _) _
    have hWa := hW.trans (hba.mono hW.size)
    have hO1 := OwnI.newA W (-1)
    go_simp
    refine hK.out _ _ (.inl (HC2.out _ hWa)) (fun hU => ?_)
    clear hK K hW hba
    (try simp only [Act.put, List.setIfInBounds_toArray, List.set_cons_zero, List.set_cons_succ])
    generalize W.alloc (.cells #[.int .i64 (-1)] 2) = Wa at *
    generalize W.heap.size = b3 at *
    (refine AnyS.branch (rs := [2]) (by kernel_rfl) (List.cons_ne_nil _ _) ?_; refine AllS.cons rfl ?_ AllS.nil; intro K hK)
    go_simp
    refine (HTV.out Wa hWa).mono ?_
    rintro e Wb ⟨g1, rfl, hbb, hB2⟩
    have hWb := hWa.trans (hbb.mono hWa.size)
    have hO3 := hO1.below hbb
    refine hK.out _ _ (.inl (HC2.out _ hWb)) (fun hU => ?_)
    clear hK K hWa hbb hO1
    (try simp only [Act.put, List.setIfInBounds_toArray, List.set_cons_zero, List.set_cons_succ])
  all_goals
    have hrp := HRP.out Wb b3 _ hO3
    (refine AnyS.branch (rs := [9]) (by kernel_rfl) (List.cons_ne_nil _ _) ?_; refine AllS.cons rfl ?_ AllS.nil; intro K hK)
    go_simp
    refine hrp.mono ?_
    rintro e wD ⟨D, c, rfl, hb4, hD1, hD2, hdg⟩
    have hg1 : g1 < Wb.heap.size := hB2.lt
    have hW4 := hWb.trans (hb4.mono hWb.size)
    have HB3 := Lib.hid (hB2.keep hb4)
    have HDG := Lib.hid hdg
    have HDL : Hid (w1.heap.size ≤ D ∧ g1 ≠ D ∧ D < wD.heap.size) := ⟨Nat.le_trans hWb.size hD1, by omega, hD2⟩
    refine hK.out _ _ (.inl (HC2.out _ hW4)) (fun hU => ?_)
    clear hK K hWb hb4 hB2 hdg hrp hO3
    (try simp only [Act.put, List.setIfInBounds_toArray, List.set_cons_zero, List.set_cons_succ])
    (refine AnyS.take (i := 10) rfl (by kernel_rfl) (by kernel_rfl) (by kernel_rfl) (by rfl) (fun _ _ _ h => h) (by rfl) (by intro w; go_simp; with_reducible rfl) hU (fun hU => ?_); (try simp only [Act.put, List.setIfInBounds_toArray, List.set_cons_zero, List.set_cons_succ]))
    (refine AnyS.branch (rs := [11]) (by kernel_rfl) (List.cons_ne_nil _ _) ?_; refine AllS.cons rfl ?_ AllS.nil; intro K hK)
    have hM5 : Mg wD.heap.size wD (wD.alloc (.cells #[.pointer (some ⟨T, 0, none⟩), .slice (some ⟨g1, 0, none⟩) M.s M.s, .slice none 0 0, .slice (some ⟨D, 0, none⟩) M.s c] 103)) ((wD.heap.size, [.pointer (some ⟨T, 0, none⟩), .slice (some ⟨g1, 0, none⟩) M.s M.s, .slice none 0 0, .slice (some ⟨D, 0, none⟩) M.s c], 103) :: Lb M []) [⟨.slice none 0 0, 57, 1, 0, slB M []⟩] := ((Mg.start wD).alloc #[.pointer (some ⟨T, 0, none⟩), .slice (some ⟨g1, 0, none⟩) M.s M.s, .slice none 0 0, .slice (some ⟨D, 0, none⟩) M.s c] 103).addNil 57 1
    have hb5 : Below w1.heap.size w1 (wD.alloc (.cells #[.pointer (some ⟨T, 0, none⟩), .slice (some ⟨g1, 0, none⟩) M.s M.s, .slice none 0 0, .slice (some ⟨D, 0, none⟩) M.s c] 103)) := hW4.alloc hW4.size _
    go_simp
    refine hK.out _ _ (.inl (HC2.out _ hb5)) (fun hU => ?_)
    clear hK K hb5
    (try simp only [Act.put, List.setIfInBounds_toArray, List.set_cons_zero, List.set_cons_succ])
    (refine AnyS.take (i := 12) rfl (by kernel_rfl) (by kernel_rfl) (by kernel_rfl) (by rfl) (fun _ _ _ h => h) (by rfl) (by intro w; go_simp; with_reducible rfl) hU (fun hU => ?_); (try simp only [Act.put, List.setIfInBounds_toArray, List.set_cons_zero, List.set_cons_succ]))
    refine AnyS.done (by kernel_rfl) ?_ _
    clear hU
    obtain ⟨j0, hj0, hy0, hy1, hy2⟩ := info_parts Try.info57
    have HWW : Hid (∀ W, Below wD.heap.size wD W → Below w1.heap.size w1 W) := fun W hW => hW4.trans (hW.mono hW4.size)
    have HM5 := Lib.hid hM5
    have HRE : Hid (∀ W q, q < M.s → Below w1.heap.size w1 W → Calls Try.prog 75 #[.slice (some ⟨gN, 0, none⟩) M.s cN, .int .i64 (q : Int)] W fun e w' => ∃ b, e = .returned (.slice (some ⟨b, 0, none⟩) M.s M.s) ∧ Below W.heap.size W w' ∧ W.heap.size ≤ b ∧ Blk w' b (bvs M.s (M.tbl.rb q)) 4) := fun W q hq hW => reached_any M hwf hok gN cN q hq W (fun z hz => by
      obtain ⟨g, cg, e1, e2⟩ := HT4.out z hz
      exact ⟨g, cg, (hW.cell (World.block_lt_of_cell? _ _ e1)).trans e1, fun x hx => (hW.cell (World.block_lt_of_cell? _ _ (e2 x hx))).trans (e2 x hx)⟩)
    have t2 := HC2.out _ (HWW.out _ hM5.below)
    clear hM5 hW4
    generalize wD.alloc (.cells #[.pointer (some ⟨T, 0, none⟩), .slice (some ⟨g1, 0, none⟩) M.s M.s, .slice none 0 0, .slice (some ⟨D, 0, none⟩) M.s c] 103) = W6 at *
    generalize hKs : wD.heap.size = K' at *
    go_wp2_with fail
    clear t2
    go_loopw [25] (fun iv wr => ∃ (bl : List Nat) (vr : Value), bl.length ≤ M.s ∧ iv = .int .i64 (bl.length : Int) ∧ Mg K' wD wr ((K', [.pointer (some ⟨T, 0, none⟩), .slice (some ⟨g1, 0, none⟩) M.s M.s, vr, .slice (some ⟨D, 0, none⟩) M.s c], 103) :: Lb M bl) [⟨vr, 57, 1, bl.length, slB M bl⟩]) (fun iv _ => M.s - (intOf iv).toNat)
    case atStart => exact ⟨[], _, Nat.zero_le _, rfl, HM5.out⟩
    case round =>
      clear HM5
      obtain ⟨bl, vr, hbl, rfl, hM⟩ := hrel
      obtain ⟨i, hi⟩ : ∃ i, i = bl.length := ⟨_, rfl⟩
      have HIL := Lib.hid hi
      rw [← hi] at hM hbl ⊢
      have ei : IntKind.i64.wrap ((i : Int) + 1) = (i : Int) + 1 := IntWalk.i64_in _ (by omega)
      obtain ⟨ar, cr, rfl⟩ := hM.sl 0 (v := vr) rfl
      by_cases hlt : i < M.s
      · have i1 : (0 : Int) ≤ (i : Int) := by omega
        have i2 : (i : Int) < (M.s : Int) := by omega
        have HR := Lib.hid (fun W hW => HRE.out W i hlt hW)
        have HS : Hid (∀ W L' bl' G', Mg K' wD W (L' ++ ((K', [.pointer (some ⟨T, 0, none⟩), .slice (some ⟨g1, 0, none⟩) M.s M.s, .slice ar i cr, .slice (some ⟨D, 0, none⟩) M.s c], 103) :: Lb M bl')) G' → W.cell? ⟨K', 2, none⟩ = some (.slice ar i cr) ∧ W.cell? ⟨T, 0, none⟩ = some (.slice (some ⟨gN, 0, none⟩) M.s cN)) := fun W L' bl' G' h => by
          have h2 := h.sub (List.sublist_append_right _ _)
          exact ⟨(h2.at 0 rfl).cell' (i := 2) rfl, HC2.out W (HWW.out W h.below)⟩
        have HMd : Hid (Mg K' wD wr.drew ((K', [.pointer (some ⟨T, 0, none⟩), .slice (some ⟨g1, 0, none⟩) M.s M.s, .slice ar i cr, .slice (some ⟨D, 0, none⟩) M.s c], 103) :: Lb M bl) [⟨.slice ar i cr, 57, 1, i, slB M bl⟩]) := hM.drewN 1
        clear hM hi
        go_wp2_with fail
        refine region_A (fun W => W.cell? ⟨K', 2, none⟩ = some (.slice ar i cr) ∧ W.cell? ⟨T, 0, none⟩ = some (.slice (some ⟨gN, 0, none⟩) M.s cN)) [15] 16 (fun W => Mg K' wD W ((K', [.pointer (some ⟨T, 0, none⟩), .slice (some ⟨g1, 0, none⟩) M.s M.s, .slice ar i cr, .slice (some ⟨D, 0, none⟩) M.s c], 103) :: Lb M bl) [⟨.slice ar i cr, 57, 1, i, slB M bl⟩]) rfl HMX.out HMd.out (fun W h => HS.out W [] _ _ h) (fun W hM hU => ?_)
        clear HMd
        (refine AnyS.take (i := 0) rfl (by kernel_rfl) (by kernel_rfl) (by kernel_rfl) (by rfl) (fun _ _ _ h => h) (by rfl) (by intro w; go_simp; with_reducible rfl) hU (fun hU => ?_); (try simp only [Act.put, List.setIfInBounds_toArray, List.set_cons_zero, List.set_cons_succ]); refine AnyS.take (i := 1) rfl (by kernel_rfl) (by kernel_rfl) (by kernel_rfl) (by rfl) (fun _ _ _ h => h) (by rfl) (by intro w; go_simp; with_reducible rfl) hU (fun hU => ?_); (try simp only [Act.put, List.setIfInBounds_toArray, List.set_cons_zero, List.set_cons_succ]); refine AnyS.take (i := 2) rfl (by kernel_rfl) (by kernel_rfl) (by kernel_rfl) (by rfl) (fun _ _ _ h => h) (by rfl) (by intro w; go_simp; with_reducible rfl) hU (fun hU => ?_); (try simp only [Act.put, List.setIfInBounds_toArray, List.set_cons_zero, List.set_cons_succ]); refine AnyS.take (i := 3) rfl (by kernel_rfl) (by kernel_rfl) (by kernel_rfl) (by rfl) (fun _ _ _ h => h) (by rfl) (by intro w; go_simp; with_reducible rfl) hU (fun hU => ?_); (try simp only [Act.put, List.setIfInBounds_toArray, List.set_cons_zero, List.set_cons_succ]))
        (refine AnyS.takeS (i := 4) rfl (by kernel_rfl) (by kernel_rfl) (by kernel_rfl) (by rfl) (by kernel_rfl) (by kernel_rfl) (fun _ _ _ h => h) (by rfl) (by intro W hSw; have h1 := hSw.1; clear hSw; go_simp; with_reducible rfl) hU (fun hU => ?_); (try simp only [Act.put, List.setIfInBounds_toArray, List.set_cons_zero, List.set_cons_succ]))
        (refine AnyS.take (i := 5) rfl (by kernel_rfl) (by kernel_rfl) (by kernel_rfl) (by rfl) (fun _ _ _ h => h) (by rfl) (by intro w; go_simp; with_reducible rfl) hU (fun hU => ?_); (try simp only [Act.put, List.setIfInBounds_toArray, List.set_cons_zero, List.set_cons_succ]); refine AnyS.take (i := 6) rfl (by kernel_rfl) (by kernel_rfl) (by kernel_rfl) (by rfl) (fun _ _ _ h => h) (by rfl) (by intro w; go_simp; with_reducible rfl) hU (fun hU => ?_); (try simp only [Act.put, List.setIfInBounds_toArray, List.set_cons_zero, List.set_cons_succ]); refine AnyS.take (i := 7) rfl (by kernel_rfl) (by kernel_rfl) (by kernel_rfl) (by rfl) (fun _ _ _ h => h) (by rfl) (by intro w; go_simp; with_reducible rfl) hU (fun hU => ?_); (try simp only [Act.put, List.setIfInBounds_toArray, List.set_cons_zero, List.set_cons_succ]))
        (refine AnyS.takeS (i := 8) rfl (by kernel_rfl) (by kernel_rfl) (by kernel_rfl) (by rfl) (by kernel_rfl) (by kernel_rfl) (fun _ _ _ h => h) (by rfl) (by intro W hSw; have h1 := hSw.2; clear hSw; go_simp; with_reducible rfl) hU (fun hU => ?_); (try simp only [Act.put, List.setIfInBounds_toArray, List.set_cons_zero, List.set_cons_succ]))
        (refine AnyS.take (i := 9) rfl (by kernel_rfl) (by kernel_rfl) (by kernel_rfl) (by rfl) (fun _ _ _ h => h) (by rfl) (by intro w; go_simp; with_reducible rfl) hU (fun hU => ?_); (try simp only [Act.put, List.setIfInBounds_toArray, List.set_cons_zero, List.set_cons_succ]))
        have hre := HR.out W (HWW.out W hM.below)
        (refine AnyS.branch (rs := [10]) (by kernel_rfl) (List.cons_ne_nil _ _) ?_; refine AllS.cons rfl ?_ AllS.nil; intro K hK)
        go_simp
        refine hre.mono ?_
        rintro e Wa ⟨b, rfl, hba, hge, hB⟩
        have hMa : Mg K' wD Wa ((K', [.pointer (some ⟨T, 0, none⟩), .slice (some ⟨g1, 0, none⟩) M.s M.s, .slice ar i cr, .slice (some ⟨D, 0, none⟩) M.s c], 103) :: Lb M (bl ++ [b])) [⟨.slice ar i cr, 57, 1, i, slB M bl⟩] := by
          have h := hM.callBlk hba hge hB
          rw [Lb_snoc, ← HIL.out]; exact h
        refine hK.out _ _ (.inl (HS.out _ [] _ _ hMa)) (fun hU => ?_)
        clear hK K hM hba hge hB hre
        (try simp only [Act.put, List.setIfInBounds_toArray, List.set_cons_zero, List.set_cons_succ])
        (refine AnyS.branch (rs := [11]) (by kernel_rfl) (List.cons_ne_nil _ _) ?_; refine AllS.cons rfl ?_ AllS.nil; intro K hK)
        have hMb : Mg _ _ _ ((Wa.heap.size, [Value.slice (some ⟨b, 0, none⟩) M.s M.s], 57) :: _) _ := hMa.alloc #[Value.slice (some ⟨b, 0, none⟩) M.s M.s] 57
        go_simp
        refine hK.out _ _ (.inl (HS.out _ [_] _ _ hMb)) (fun hU => ?_)
        clear hK K hMa
        (try simp only [Act.put, List.setIfInBounds_toArray, List.set_cons_zero, List.set_cons_succ])
        generalize Wa.alloc (.cells #[Value.slice (some ⟨b, 0, none⟩) M.s M.s] 57) = Wb at *
        generalize Wa.heap.size = b11 at *
        (refine AnyS.branch (rs := [12]) (by kernel_rfl) (List.cons_ne_nil _ _) ?_; refine AllS.cons rfl ?_ AllS.nil; intro K hK)
        refine Mg.appendQ (by rfl) (.tmp 32) (.tmp 39) 54 rfl hMb 0 rfl Try.underlying54 hj0 hy0 hy1 hy2 rfl (by decide) 0 rfl rfl rfl rfl (by simp [Value.oneCell']) (by omega) (by omega) (fun g8 c8 Wc hMc hOc hgc hsc => ?_)
        (try simp only [List.set_cons_zero, List.set_cons_succ] at hMc)
        refine hK.out _ _ (.inl (HS.out _ [_] _ _ hMc)) (fun hU => ?_)
        clear hK K hMb hOc hgc hsc
        (try simp only [Act.put, List.setIfInBounds_toArray, List.set_cons_zero, List.set_cons_succ])
        (refine AnyS.take (i := 13) rfl (by kernel_rfl) (by kernel_rfl) (by kernel_rfl) (by rfl) (fun _ _ _ h => h) (by rfl) (by intro w; go_simp; with_reducible rfl) hU (fun hU => ?_); (try simp only [Act.put, List.setIfInBounds_toArray, List.set_cons_zero, List.set_cons_succ]); refine AnyS.take (i := 14) rfl (by kernel_rfl) (by kernel_rfl) (by kernel_rfl) (by rfl) (fun _ _ _ h => h) (by rfl) (by intro w; go_simp; with_reducible rfl) hU (fun hU => ?_); (try simp only [Act.put, List.setIfInBounds_toArray, List.set_cons_zero, List.set_cons_succ]))
        have hMd := hMc.sub (List.sublist_cons_self _ _)
        have d1 := (hMd.at 0 rfl).cell' (i := 2) rfl
        have f1 := (hMd.at 0 rfl).free 2
        have hMe := hMd.setCell 0 rfl 2 (.slice (some ⟨g8, 0, none⟩) (i + 1) c8)
        have HMe : Hid (Mg K' wD (Wc.setCell ⟨K', 2, none⟩ (.slice (some ⟨g8, 0, none⟩) (i + 1) c8)) ((K', [.pointer (some ⟨T, 0, none⟩), .slice (some ⟨g1, 0, none⟩) M.s M.s, .slice (some ⟨g8, 0, none⟩) (i + 1) c8, .slice (some ⟨D, 0, none⟩) M.s c], 103) :: Lb M (bl ++ [b])) [⟨.slice (some ⟨g8, 0, none⟩) (i + 1) c8, 57, 1, i + 1, slB M (bl ++ [b])⟩]) := by
          have e : slB M (bl ++ [b]) = slB M bl ++ [.slice (some ⟨b, 0, none⟩) M.s M.s] := by simp [slB]
          rw [Hid, e]; exact hMe
        (refine AnyS.branch (rs := [15]) (by kernel_rfl) (List.cons_ne_nil _ _) ?_; refine AllS.cons rfl ?_ AllS.nil; intro K hK)
        go_simp
        refine hK.out _ _ (.inr ⟨15, by simp, by rfl⟩) (fun hU => ?_)
        clear hK K d1 f1 hMc hMd hMe
        (try simp only [Act.put, List.setIfInBounds_toArray, List.set_cons_zero, List.set_cons_succ])
        refine AnyS.done (by kernel_rfl) ?_ _
        clear hU
        go_wp2_with fail
        go_roundw
        case rel =>
          refine ⟨bl ++ [b], .slice (some ⟨g8, 0, none⟩) (i + 1) c8, by rw [List.length_append, List.length_singleton, ← HIL.out]; omega, ?_, ?_⟩
          · rw [List.length_append, List.length_singleton, ← HIL.out]; go_num
          · rw [List.length_append, List.length_singleton, ← HIL.out]; exact HMe.out
        case measure => simp [intOf] <;> omega
      · have hi' : M.s = i := by omega
        subst hi'
        have i2 : ¬ ((M.s : Int) < (M.s : Int)) := by omega
        have HM := Lib.hid hM
        have HKS := Lib.hid hKs
        clear hM hi
        go_wp2_with fail
        go_ret
        have hM := HM.out
        have hDK : D < K' := HDL.out.2.2
        have hcut : ∀ (a : Addr) (v : Value), wr.cell? a = some v → a.block ≠ D → (cutD wr D).cell? a = some v := fun a v h1 h2 => cutD_of h1 h2
        have hbw : Below w1.heap.size w1 wr := HWW.out wr hM.below
        refine ⟨K', D, c, rfl, HB1.out.trans (hbw.mono HB1.out.size), ⟨⟨⟨T, hcut _ _ ((hM.at 0 rfl).cell' (i := 0) rfl) (by simp only; omega), HTR.out.keep (cutD_old hbw HDL.out.1)⟩, ⟨g1, M.s, hcut _ _ ((hM.at 0 rfl).cell' (i := 1) rfl) (by simp only; omega), fun q hq => hcut _ _ ?_ HDL.out.2.1⟩, ?_⟩, (hM.at 0 rfl).cell' (i := 3) rfl, by omega, ?_, ?_⟩, Nat.le_trans HB1.out.size HDL.out.1⟩
        · have hb : Below wD.heap.size wD wr := by rw [HKS.out]; exact hM.below
          exact (HB3.out.keep hb).cell' (bvs_get (trivB M) hq)
        · obtain ⟨gR, cR, e1, -, -, hgR, -⟩ := hM.roomK 0 rfl hs1
          injection e1 with e1 _ e2
          subst e1 e2
          refine ⟨gR, cr, hcut _ _ ((hM.at 0 rfl).cell' (i := 2) rfl) (by simp only; omega), fun q hq => ?_⟩
          have hql : q < bl.length := by rw [← HIL.out]; exact hq
          obtain ⟨bq, hbq⟩ : ∃ bq, bl[q]? = some bq := ⟨_, List.getElem?_eq_getElem hql⟩
          have hmem := List.mem_cons_of_mem (K', [.pointer (some ⟨T, 0, none⟩), .slice (some ⟨g1, 0, none⟩) M.s M.s, .slice (some ⟨gR, 0, none⟩) M.s cr, .slice (some ⟨D, 0, none⟩) M.s c], 103) (Lb_get (M := M) hbq)
          have hblk := hM.blk _ hmem
          refine ⟨bq, M.s, hcut _ _ (hM.cellAtK (i := 0) rfl (j := q) (by simp [slB, hbq])) (by simp only; omega), fun r hr => hcut _ _ (hblk.2.cell' (bvs_get (M.tbl.rb q) hr)) (by have := hblk.1; simp only at this ⊢; omega)⟩
        · have hb := hM.size
          omega
        · have hb : Below wD.heap.size wD wr := by rw [HKS.out]; exact hM.below
          exact HDG.out.below hb
end Go.Proofs.Ythgkkaifdlkciaa
