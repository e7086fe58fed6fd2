import Derived.Test.YteagecoiijhflaaYBall03
import Derived.Test.YteagecoiijhflaaYBall04
import Derived.Laws.OwnMore
import Derived.Test.YteagecoiijhflaaYBall01
/- What the laws ask of a result that is a slice of numbers. -/
namespace Go.Proofs.Yteagecoiijhflaa
open Go.RowKit
set_option linter.unusedVariables false
set_option linter.unusedSimpArgs false

/-- v is a slice of the numbers xs, in memory from B on that is its own -/
def OwnI (w : World) (B : Nat) (v : Value) (xs : List Int) : Prop := w.ownsRow B 2 1 v xs.length (i64s xs)
theorem OwnI.below {w w' : World} {B : Nat} {v : Value} {xs : List Int} (h : OwnI w B v xs) (hb : Below w.heap.size w w') : OwnI w' B v xs := by
  have hg : w.grownBy w' none := ⟨hb.os, hb.tape, hb.output, hb.size, fun k hk _ => hb.block k hk⟩
  exact World.ownsRow.kept h hg (by by_cases e : v.ownBlock = none <;> simp [e])
theorem OwnI.keep {w w' : World} {B C : Nat} {v : Value} {xs : List Int} (h : OwnI w B v xs) (hb : Below C w w') (hC : ∀ k, v.ownBlock = some k → k < C) : OwnI w' B v xs := by
  refine ⟨h.1, ?_⟩
  rcases h.2 with hn | ⟨g, cap, cur, rfl, h1, h2, rest⟩
  · exact .inl hn
  · exact .inr ⟨g, cap, cur, rfl, h1, (hb.block g (hC g rfl)).trans h2, rest⟩
theorem OwnI.less {w : World} {B C : Nat} {v : Value} {xs : List Int} (h : OwnI w B v xs) (hC : C ≤ B) : OwnI w C v xs := by
  refine ⟨h.1, ?_⟩
  rcases h.2 with hn | ⟨g, cap, cur, hv, h1, rest⟩
  · exact .inl hn
  · exact .inr ⟨g, cap, cur, hv, by omega, rest⟩
/-- its form -/
theorem OwnI.form {w : World} {B : Nat} {v : Value} {xs : List Int} (h : OwnI w B v xs) : ∃ a c, v = .slice a xs.length c ∧ IntsAt w a xs := by
  rcases h.2 with ⟨rfl, h0⟩ | ⟨g, cap, cur, rfl, h1, hg, h2, h3, h4, h5⟩
  · exact ⟨none, 0, by rw [h0], fun i hi => by omega⟩
  · refine ⟨some ⟨g, 0, none⟩, cap, rfl, fun i hi => ⟨g, 0, rfl, ?_⟩⟩
    rw [Nat.zero_add]
    have := World.ownsRow.cellAt h i (by omega)
    rw [this, i64s_get hi]

def marks (k n : Nat) : List Int := (List.range n).map fun i => ((k + i : Nat) : Int)
theorem marks_length (k n : Nat) : (marks k n).length = n := by simp [marks]

set_option maxHeartbeats 1000000 in
theorem eqI_any (a b : Option Addr) (c d : Nat) (xs ys : List Int) (hx : xs.length ≤ 2000000) (w : World) (ha : IntsAt w a xs) (hb : IntsAt w b ys) :
    Calls Try.prog 20 #[.slice a xs.length c, .slice b ys.length d] w (Ret (.bool (decide (xs = ys))) w) := by
  have HA := Lib.hid ha
  have HB := Lib.hid hb
  clear ha hb
  go_enter Try.func20, Try.ntmps20
  by_cases hl : xs.length = ys.length
  · have hle : ((xs.length : Int) == (ys.length : Int)) = true := by simp; omega
    have hln : ((xs.length : Int) != (ys.length : Int)) = false := by simp; omega
    go_wp2
    go_loopw [5] (fun i wr => ∃ k : Nat, k ≤ xs.length ∧ i = .int .i64 k ∧ Below w.heap.size w wr ∧ Hid (∀ j, j < k → xs[j]? = ys[j]?)) (fun i _ => xs.length - (intOf i).toNat)
    case atStart => exact ⟨0, Nat.zero_le _, rfl, Below.refl _ _, fun j hj => by omega⟩
    case round =>
      obtain ⟨k, hk, rfl, hb, HE⟩ := hrel
      by_cases hlt : k < xs.length
      · obtain ⟨g, off, rfl, hc⟩ := HA.out k hlt
        obtain ⟨g', off', rfl, hc'⟩ := HB.out k (by omega)
        rw [← hb.cell (p := ⟨g, off + k, none⟩) (World.block_lt_of_cell? w _ hc)] at hc
        rw [← hb.cell (p := ⟨g', off' + k, none⟩) (World.block_lt_of_cell? w _ hc')] at hc'
        have i1 : (0 : Int) ≤ (k : Int) := by omega
        have i2 : (k : Int) < (xs.length : Int) := by omega
        have i3 : (k : Int) < (ys.length : Int) := by omega
        have i4 : k < ys.length := by omega
        obtain ⟨x, hx⟩ : ∃ x, x = xs[k]?.getD 0 := ⟨_, rfl⟩
        obtain ⟨y, hy⟩ : ∃ y, y = ys[k]?.getD 0 := ⟨_, rfl⟩
        rw [← hx] at hc
        rw [← hy] at hc'
        by_cases e : x = y
        · have HN : Hid (∀ j, j < k + 1 → xs[j]? = ys[j]?) := fun j hj => by
            by_cases h : j = k
            · subst h
              rw [List.getElem?_eq_getElem hlt, List.getElem?_eq_getElem i4] at *
              simp only [Option.getD_some] at hx hy
              rw [← hx, ← hy, e]
            · exact HE.out j (by omega)
          subst e
          clear hx hy
          go_wp2
          go_quiet (fail)
          go_wp2
          go_roundw
          case rel => exact ⟨k + 1, by omega, by go_num, below_dN hb _, HN⟩
          case measure => simp [intOf]; omega
        · have H : Hid (decide (xs = ys) = false) := by
            show _ = _
            simp only [decide_eq_false_iff_not]; intro h; rw [h] at hx; exact e (hx.trans hy.symm)
          have e' : (x != y) = true := by simpa using e
          clear e hx hy
          go_wp2
          go_quiet (fail)
          go_wp2
          go_ret
          exact ⟨ret_bool H.out.symm, below_dN hb _⟩
      · have H : Hid (decide (xs = ys) = true) := by
          show _ = _
          simp only [decide_eq_true_eq]
          apply List.ext_getElem?
          intro j
          by_cases hj : j < k
          · exact HE.out j hj
          · rw [List.getElem?_eq_none (by omega), List.getElem?_eq_none (by omega)]
        go_wp2
        go_ret
        exact ⟨ret_bool H.out.symm, hb⟩
  · have H : Hid (decide (xs = ys) = false) := by
      show _ = _
      simp only [decide_eq_false_iff_not]; intro e; rw [e] at hl; exact hl rfl
    have hle : ((xs.length : Int) == (ys.length : Int)) = false := by simp; omega
    have hln : ((xs.length : Int) != (ys.length : Int)) = true := by simp; omega
    clear hl
    go_wp2_with fail
    go_ret
    exact ⟨ret_bool H.out.symm, Below.refl _ _⟩

theorem eqI_same (a b : Option Addr) (c d : Nat) (xs : List Int) (hx : xs.length ≤ 2000000) (w : World) (ha : IntsAt w a xs) (hb : IntsAt w b xs) :
    Calls Try.prog 20 #[.slice a xs.length c, .slice b xs.length d] w (Ret (.bool true) w) := by
  have := eqI_any a b c d xs xs hx w ha hb
  rwa [show decide (xs = xs) = true from by simp] at this

/-- i numbers marked, from k on; the rest as it was -/
def mixM (k i : Nat) (xs : List Int) : List Int := marks k i ++ xs.drop i
theorem mixM_length (k i : Nat) (xs : List Int) (h : i ≤ xs.length) : (mixM k i xs).length = xs.length := by simp [mixM, marks_length]; omega
theorem mixM_succ (k i : Nat) (xs : List Int) (h : i < xs.length) : (i64s (mixM k i xs)).set i (.int .i64 ((k + i : Nat) : Int)) = i64s (mixM k (i + 1) xs) := by
  have e : marks k (i + 1) = marks k i ++ [((k + i : Nat) : Int)] := by simp [marks, List.range_succ]
  simp only [mixM, i64s, e, List.map_append]
  rw [List.set_append_right _ _ (by simp [marks_length]), List.append_assoc]
  congr 1
  rw [show i - ((marks k i).map (Value.int .i64)).length = 0 by simp [marks_length], List.drop_eq_getElem_cons h, List.map_cons, List.set_cons_zero]
  rfl
theorem mixM_all (k : Nat) (xs : List Int) : mixM k xs.length xs = marks k xs.length := by simp [mixM]
theorem marks_get {k n i : Nat} (h : i < n) : (marks k n)[i]?.getD 0 = ((k + i : Nat) : Int) := by simp [marks, h]

set_option maxHeartbeats 1000000 in
theorem markI_any (B : Nat) (v : Value) (xs : List Int) (k : Nat) (hx : xs.length ≤ 1000000) (hk : k ≤ 1000000) (w : World) (hB : B ≤ w.heap.size) (h : OwnI w B v xs) :
    Calls Try.prog 21 #[v, .int .i64 (k : Int)] w fun e w' => e = .returned (.int .i64 ((k + xs.length : Nat) : Int)) ∧ Below B w w' ∧ OwnI w' B v (marks k xs.length) := by
  obtain ⟨a, c, rfl, -⟩ := h.form
  have H0 : Hid (OwnI w B (.slice a xs.length c) (mixM k 0 xs)) := by
    show OwnI _ _ _ _
    simpa [mixM, marks] using h
  clear h
  go_enter Try.func21, Try.ntmps21
  go_wp2
  go_loopw [1, 5] (fun u i wr => ∃ j : Nat, j ≤ xs.length ∧ i = .int .i64 j ∧ u = .int .i64 ((k + j : Nat) : Int) ∧ Below B w wr ∧ Hid (OwnI wr B (.slice a xs.length c) (mixM k j xs))) (fun _ i _ => xs.length - (intOf i).toNat)
  case atStart => exact ⟨0, Nat.zero_le _, rfl, rfl, Below.refl _ _, H0⟩
  case round =>
    clear H0
    obtain ⟨j, hj, rfl, rfl, hb, HO⟩ := hrel
    by_cases hlt : j < xs.length
    · have hO := HO.out
      have hlen := mixM_length k j xs hj
      obtain ⟨g, rfl, hgB⟩ : ∃ g, a = some ⟨g, 0, none⟩ ∧ B ≤ g := by
        rcases hO.2 with ⟨_, e⟩ | ⟨g, cap, cur, hv, h1, rest⟩
        · omega
        · simp at hv; exact ⟨g, hv.1, h1⟩
      have hO' : wr.ownsRow B 2 1 (.slice (some ⟨g, 0, none⟩) xs.length c) xs.length (i64s (mixM k j xs)) := by
        have := hO; rw [OwnI, hlen] at this; exact this
      have hcell := hO'.cellAt j (by omega)
      rw [i64s_get (by omega)] at hcell
      have hfz := hO'.frozenAt j
      have hset : Hid (OwnI (wr.setCell ⟨g, j, none⟩ (.int .i64 ((k + j : Nat) : Int))) B (.slice (some ⟨g, 0, none⟩) xs.length c) (mixM k (j + 1) xs)) := by
        have := (hO'.stored j (.int .i64 ((k + j : Nat) : Int))).1
        rw [mixM_succ k j xs hlt] at this
        show World.ownsRow _ _ _ _ _ _ _
        rw [mixM_length k (j + 1) xs hlt]
        exact this
      have hb' := hb.setCell (p := ⟨g, j, none⟩) hgB (.int .i64 ((k + j : Nat) : Int))
      have i1 : (0 : Int) ≤ (j : Int) := by omega
      have i2 : (j : Int) < (xs.length : Int) := by omega
      obtain ⟨z, hz⟩ : ∃ z, (mixM k j xs)[j]?.getD 0 = z := ⟨_, rfl⟩
      rw [hz] at hcell
      clear hz hO hO' hlen
      go_wp2
      go_roundw
      case rel => exact ⟨j + 1, by omega, by go_num, by go_num, hb', hset⟩
      case measure => simp [intOf]; omega
    · have hj' : j = xs.length := by omega
      subst hj'
      rw [mixM_all] at HO
      go_wp2
      go_ret
      exact ⟨rfl, hb, HO.out⟩

set_option maxHeartbeats 1000000 in
theorem heldI_any (B : Nat) (v : Value) (k n : Nat) (hx : n ≤ 1000000) (hk : k ≤ 1000000) (w : World) (h : OwnI w B v (marks k n)) :
    Calls Try.prog 22 #[v, .int .i64 (k : Int)] w (Ret (.int .i64 ((k + n : Nat) : Int)) w) := by
  obtain ⟨a, c, rfl, hI⟩ := h.form
  rw [marks_length]
  have HI := Lib.hid hI
  clear h hI
  go_enter Try.func22, Try.ntmps22
  go_wp2
  go_loopw [1, 5] (fun u i wr => ∃ j : Nat, j ≤ n ∧ i = .int .i64 j ∧ u = .int .i64 ((k + j : Nat) : Int) ∧ Below w.heap.size w wr) (fun _ i _ => n - (intOf i).toNat)
  case atStart => exact ⟨0, Nat.zero_le _, rfl, rfl, Below.refl _ _⟩
  case round =>
    obtain ⟨j, hj, rfl, rfl, hb⟩ := hrel
    by_cases hlt : j < n
    · obtain ⟨g, off, rfl, hc⟩ := HI.out j (by rw [marks_length]; exact hlt)
      rw [← hb.cell (p := ⟨g, off + j, none⟩) (World.block_lt_of_cell? w _ hc), marks_get hlt] at hc
      have i1 : (0 : Int) ≤ (j : Int) := by omega
      have i2 : (j : Int) < (n : Int) := by omega
      go_wp2
      go_roundw
      case rel => exact ⟨j + 1, by omega, by go_num, by go_num, hb⟩
      case measure => simp [intOf]; omega
    · have hj' : j = n := by omega
      subst hj'
      go_wp2
      go_ret
      exact ⟨rfl, hb⟩
end Go.Proofs.Yteagecoiijhflaa

/- Activities: no program in sight. -/
namespace Go.Proofs.Yteagecoiijhflaa
set_option linter.unusedVariables false
set_option linter.unusedSimpArgs false

def updN (f : Nat → Nat) (j v : Nat) : Nat → Nat := fun q => if q = j then v else f q
/-- x letters of state r done -/
def nxX (m : Mch) (now : Nat → Nat) (r : Nat) : Nat → (Nat → Nat) → Nat → Nat
  | 0, f => f
  | x + 1, f => updN (nxX m now r x f) (m.nn r x) (nxX m now r x f (m.nn r x) + now r)
/-- r states done, those that p lets in -/
def nxRow (m : Mch) (p : Nat → Bool) (now : Nat → Nat) : Nat → Nat → Nat
  | 0 => fun _ => 0
  | r + 1 => if p r then nxX m now r m.l (nxRow m p now r) else nxRow m p now r
/-! Bounds -/
def tot (f : Nat → Nat) : Nat → Nat
  | 0 => 0
  | r + 1 => tot f r + f r
end Go.Proofs.Yteagecoiijhflaa

/- A machine as a table. -/
namespace Go.Proofs.Yteagecoiijhflaa
open Go.RowKit
set_option linter.unusedVariables false
set_option linter.unusedSimpArgs false

theorem Try.info2 : (Try.prog.info? 2).map (fun i => (i.zero, i.size, i.bytes)) = some (some (.int .i64 0), 1, 8) := by kernel_rfl
theorem Try.info26 : (Try.prog.info? 26).map (fun i => (i.zero, i.size, i.bytes)) = some (some (.slice none 0 0), 1, 24) := by kernel_rfl

def nxR (m : Mch) (q k : Nat) : List Int := (List.range k).map fun x => (m.nn q x : Int)
def otR (m : Mch) (q k : Nat) : List Int := (List.range k).map fun x => (m.on q x : Int)
theorem nxR_succ (m : Mch) (q k : Nat) : i64s (nxR m q (k + 1)) = i64s (nxR m q k) ++ [.int .i64 (m.nn q k : Int)] := by simp [nxR, i64s, List.range_succ]
theorem otR_succ (m : Mch) (q k : Nat) : i64s (otR m q (k + 1)) = i64s (otR m q k) ++ [.int .i64 (m.on q k : Int)] := by simp [otR, i64s, List.range_succ]
def tabN (m : Mch) (k : Nat) : List (List Value) := (List.range k).map fun q => i64s (nxR m q m.l)
def tabO (m : Mch) (k : Nat) : List (List Value) := (List.range k).map fun q => i64s (otR m q m.l)
theorem tabN_succ (m : Mch) (k : Nat) : tabN m (k + 1) = tabN m k ++ [i64s (nxR m k m.l)] := by simp [tabN, List.range_succ]
theorem tabO_succ (m : Mch) (k : Nat) : tabO m (k + 1) = tabO m k ++ [i64s (otR m k m.l)] := by simp [tabO, List.range_succ]

/-- one element in a block of its own -/
theorem one_news (w : World) (v : Value) (E : TypeId) : ∀ j u, [v][j]? = some u → (w.alloc (.cells #[v] E)).cell? ((⟨w.heap.size, 0, none⟩ : Addr).add j) = some u := by
  intro j u hj
  match j, hj with
  | 0, hj => simp at hj; subst hj; simp [Addr.add]

/-- two rows apart: behind an append to the one -/
def ApartV (v u : Value) : Prop := v.ownBlock = none ∨ v.ownBlock ≠ u.ownBlock
theorem ApartV.symm' {v u : Value} (h : ApartV v u) : ApartV u v := by
  rcases h with h | h
  · by_cases e : u.ownBlock = none
    · exact .inl e
    · exact .inr (by rw [h]; exact e)
  · exact .inr (Ne.symm h)
theorem own_apart {W w1 : World} {B C E F n k g : Nat} {v u : Value} {xs ys : List Value} (h5 : W.ownsRow B E 1 v n xs) (h6 : W.ownsRow C F 1 u k ys) (hne : ApartV v u)
    (hg : W.grownBy w1 v.ownBlock) {H : Nat} (hH : W.heap.size = H) (hl : v.ownBlock = some g ∨ g = H) (n' cap : Nat) : w1.ownsRow C F 1 u k ys ∧ ApartV (.slice (some ⟨g, 0, none⟩) n' cap) u := by
  refine ⟨h6.kept hg hne.symm', .inr ?_⟩
  intro e
  simp only [Value.ownBlock] at e
  rcases hl with hl | hl
  · rcases hne with e' | e'
    · rw [e'] at hl; cases hl
    · rw [hl] at e'; exact e' e
  · have := (h6.lt g e.symm).2; omega

set_option maxRecDepth 100000 in
set_option maxHeartbeats 4000000 in
theorem table_any (b o : Nat) (m : Mch) (hwf : m.Wf) (hok : m.Ok) (w : World) (hm : MAt w b o m) :
    Calls Try.prog 104 #[.pointer (some ⟨b, o, none⟩)] w (fun e w' => ∃ T, e = .returned (.pointer (some ⟨T, 0, none⟩)) ∧ Below w.heap.size w w' ∧ Tab w.heap.size w' T (tabN m m.s) (tabO m m.s)) := by
  obtain ⟨i0, hi, hz0, hz1, hz2⟩ := info_parts Try.info2
  obtain ⟨j0, hj, hy0, hy1, hy2⟩ := info_parts Try.info26
  have hs16 := hok.s_le
  have hl3 := hok.l_le
  have hl2 := hok.l_ge
  have hcs : w.cell? ⟨b, o + 1, none⟩ = some (.int .i64 (m.s : Int)) := by rw [← hok.S_eq]; exact hm.s
  have hbw : b < w.heap.size := World.block_lt_of_cell? w ⟨b, o, none⟩ hm.l
  go_enter Try.func104, Try.ntmps104
  go_wp2
  go_loopw [14] (fun i wr => ∃ k : Nat, k ≤ m.s ∧ i = .int .i64 k ∧ Below w.heap.size w wr ∧ Tab w.heap.size wr w.heap.size (tabN m k) (tabO m k)) (fun i _ => m.s - (intOf i).toNat)
  case atStart => exact ⟨0, Nat.zero_le _, rfl, boxedBelow _ _ _, Tab.start (Blk.new _ _ _) (by simp)⟩
  case round =>
    obtain ⟨k, hk, rfl, hbr, hT⟩ := hrel
    obtain ⟨wo, rfl⟩ : ∃ wo : World, wo = wr := ⟨_, rfl⟩
    have hmr := hm.below hbr hbw
    by_cases hlt : k < m.s
    · have hcl : wo.cell? ⟨b, o, none⟩ = some (.int .i64 (m.l : Int)) := by rw [← hok.L_eq]; exact hmr.l
      go_wp2
      go_loopw [5, 6, 21] (fun v5 v6 i wi => ∃ x : Nat, x ≤ m.l ∧ i = .int .i64 x ∧ wi.ownsRow wo.heap.size 2 1 v5 x (i64s (nxR m k x)) ∧ wi.ownsRow wo.heap.size 2 1 v6 x (i64s (otR m k x)) ∧
        ApartV v5 v6 ∧ Below wo.heap.size wo wi) (fun _ _ i _ => m.l - (intOf i).toNat)
      case atStart => exact ⟨0, Nat.zero_le _, rfl, World.ownsRow_nil _ _ _ _, World.ownsRow_nil _ _ _ _, .inl rfl, Below.refl _ _⟩
      case round =>
        obtain ⟨x, hx, rfl, h5, h6, hne, hbi⟩ := hrel
        by_cases hxlt : x < m.l
        · have hmi := hmr.keep hbi hwf
          have EO := Lib.hid (hok.o_eq hwf hlt hxlt)
          have EN := Lib.hid (hok.n_eq hwf hlt hxlt)
          have NS := Lib.hid (nxR_succ m k x)
          have OS := Lib.hid (otR_succ m k x)
          go_wp2_with fail
          refine (next_any b o m hwf _ _ (by omega) (by omega) _ hmi).mono ?_
          rintro e w' ⟨rfl, rfl⟩
          rw [Int.toNat_natCast, Int.toNat_natCast, EN.out]
          go_wp2_with (at_builtin; refine wpList_append_lies _ rfl (.tmp 24) (.tmp 29) 26 rfl wo.heap.size 2 i0 (.int .i64 0) 1 8 Try.underlying26 hi hz0 hz1 hz2 rfl (by decide) _ _ _ rfl (h5.alloc _) ⟨_, 0, none⟩ 1 1 [.int .i64 (m.nn k x : Int)] rfl rfl (one_news _ _ _) (by simp [Value.oneCell']) (by omega) ?c3 ?c4 ?c5 _ rfl ?_)
          case c3 => simp [maxLen]; omega
          case c4 => omega
          case c5 => have := hbi.size; simp; omega
          intro g cap w1 hown hgrow hlies hlt1
          obtain ⟨hb1, hsz1, -⟩ := grown_below hbi h5 (Nat.le_refl _) hbi.size hgrow
          obtain ⟨h6', hne'⟩ := own_apart (h5.alloc _) (h6.alloc _) hne hgrow (by simp) hlies (x + 1) cap
          have hm1 := hmr.keep hb1 hwf
          rw [← NS.out] at hown
          clear h5 h6 hne hgrow hlies hlt1 hbi NS EN hmi
          go_wp2_with fail
          refine (out_any b o m hwf _ _ (by omega) (by omega) _ hm1).mono ?_
          rintro e w' ⟨rfl, rfl⟩
          rw [Int.toNat_natCast, Int.toNat_natCast, EO.out]
          go_wp2_with (at_builtin; refine wpList_append_lies _ rfl (.tmp 31) (.tmp 36) 26 rfl wo.heap.size 2 i0 (.int .i64 0) 1 8 Try.underlying26 hi hz0 hz1 hz2 rfl (by decide) _ _ _ rfl (h6'.alloc _) ⟨_, 0, none⟩ 1 1 [.int .i64 (m.on k x : Int)] rfl rfl (one_news _ _ _) (by simp [Value.oneCell']) (by omega) ?c3 ?c4 ?c5 _ rfl ?_)
          case c3 => simp [maxLen]; omega
          case c4 => omega
          case c5 => have := hb1.size; simp; omega
          intro g2 cap2 w2 hown2 hgrow2 hlies2 hlt2
          obtain ⟨hb2, hsz2, -⟩ := grown_below hb1 h6' (Nat.le_refl _) hb1.size hgrow2
          obtain ⟨h5', hne2⟩ := own_apart (h6'.alloc _) (hown.alloc _) hne'.symm' hgrow2 (by simp) hlies2 (x + 1) cap2
          rw [← OS.out] at hown2
          clear h6' hne' hgrow2 hlies2 hlt2 hb1 OS EO hm1 hown
          go_wp2
          go_roundw
          case rel => exact ⟨x + 1, by omega, by go_num, h5', hown2, hne2.symm', hb2⟩
          case measure => simp [intOf]; omega
        · have hx' : x = m.l := by omega
          subst hx'
          have r5 := RowV.of_own (xs := i64s (nxR m k m.l)) (by simpa [i64s, nxR] using h5) (by simp [i64s, nxR]; omega)
          have r6 := RowV.of_own (xs := i64s (otR m k m.l)) (by simpa [i64s, otR] using h6) (by simp [i64s, otR]; omega)
          obtain ⟨vN, vO, rN, rO, hTM⟩ := hT.more hbi r5 r6
          obtain ⟨g5, c5, e5, -⟩ := r5.cell
          obtain ⟨g6, c6, e6, -⟩ := r6.cell
          subst e5 e6
          have hb2 := hbr.trans (hbi.mono hbr.size)
          clear h5 h6 hne hbi r5 r6 hT hmr hcl
          go_wp2
          have hTd := hTM.drew
          refine region_S (fun w' => w'.cell? ⟨w.heap.size, 0, none⟩ = some vN ∧ w'.cell? ⟨w.heap.size, 1, none⟩ = some vO) [18, 21] 22 rfl (by kernel_rfl) ⟨hTd.blk.cell' (by rfl), hTd.blk.cell' (by rfl)⟩ (fun hU => ?_)
          refine AnyS.take (i := 0) rfl (by kernel_rfl) (by kernel_rfl) (by kernel_rfl) (by rfl) (fun _ _ _ h => h) (by rfl) (by intro w; go_simp; with_reducible rfl) hU (fun hU => ?_)
          try simp only [Act.put, List.setIfInBounds_toArray, List.set_cons_zero, List.set_cons_succ]
          refine AnyS.take (i := 1) rfl (by kernel_rfl) (by kernel_rfl) (by kernel_rfl) (by rfl) (fun _ _ _ h => h) (by rfl) (by intro w; go_simp; with_reducible rfl) hU (fun hU => ?_)
          try simp only [Act.put, List.setIfInBounds_toArray, List.set_cons_zero, List.set_cons_succ]
          refine AnyS.take (i := 2) rfl (by kernel_rfl) (by kernel_rfl) (by kernel_rfl) (by rfl) (fun _ _ _ h => h) (by rfl) (by intro w; go_simp; with_reducible rfl) hU (fun hU => ?_)
          try simp only [Act.put, List.setIfInBounds_toArray, List.set_cons_zero, List.set_cons_succ]
          refine AnyS.take (i := 3) rfl (by kernel_rfl) (by kernel_rfl) (by kernel_rfl) (by rfl) (fun _ _ _ h => h) (by rfl) (by intro w; go_simp; with_reducible rfl) hU (fun hU => ?_)
          try simp only [Act.put, List.setIfInBounds_toArray, List.set_cons_zero, List.set_cons_succ]
          refine AnyS.take (i := 4) rfl (by kernel_rfl) (by kernel_rfl) (by kernel_rfl) (by rfl) (fun _ _ _ h => h) (by rfl) (by intro w; go_simp; with_reducible rfl) hU (fun hU => ?_)
          try simp only [Act.put, List.setIfInBounds_toArray, List.set_cons_zero, List.set_cons_succ]
          refine AnyS.takeS (i := 5) rfl (by kernel_rfl) (by kernel_rfl) (by kernel_rfl) (by rfl) (by kernel_rfl) (by kernel_rfl) (fun _ _ _ h => h) (by rfl) (by intro w hSw; obtain ⟨hc0, hc1⟩ := hSw; go_simp; with_reducible rfl) hU (fun hU => ?_)
          try simp only [Act.put, List.setIfInBounds_toArray, List.set_cons_zero, List.set_cons_succ]
          refine AnyS.take (i := 6) rfl (by kernel_rfl) (by kernel_rfl) (by kernel_rfl) (by rfl) (fun _ _ _ h => h) (by rfl) (by intro w; go_simp; with_reducible rfl) hU (fun hU => ?_)
          try simp only [Act.put, List.setIfInBounds_toArray, List.set_cons_zero, List.set_cons_succ]
          refine AnyS.take (i := 9) rfl (by kernel_rfl) (by kernel_rfl) (by kernel_rfl) (by rfl) (fun _ _ _ h => h) (by rfl) (by intro w; go_simp; with_reducible rfl) hU (fun hU => ?_)
          try simp only [Act.put, List.setIfInBounds_toArray, List.set_cons_zero, List.set_cons_succ]
          refine AnyS.take (i := 10) rfl (by kernel_rfl) (by kernel_rfl) (by kernel_rfl) (by rfl) (fun _ _ _ h => h) (by rfl) (by intro w; go_simp; with_reducible rfl) hU (fun hU => ?_)
          try simp only [Act.put, List.setIfInBounds_toArray, List.set_cons_zero, List.set_cons_succ]
          refine AnyS.take (i := 11) rfl (by kernel_rfl) (by kernel_rfl) (by kernel_rfl) (by rfl) (fun _ _ _ h => h) (by rfl) (by intro w; go_simp; with_reducible rfl) hU (fun hU => ?_)
          try simp only [Act.put, List.setIfInBounds_toArray, List.set_cons_zero, List.set_cons_succ]
          refine AnyS.takeS (i := 12) rfl (by kernel_rfl) (by kernel_rfl) (by kernel_rfl) (by rfl) (by kernel_rfl) (by kernel_rfl) (fun _ _ _ h => h) (by rfl) (by intro w hSw; obtain ⟨hc0, hc1⟩ := hSw; go_simp; with_reducible rfl) hU (fun hU => ?_)
          try simp only [Act.put, List.setIfInBounds_toArray, List.set_cons_zero, List.set_cons_succ]
          refine AnyS.take (i := 13) rfl (by kernel_rfl) (by kernel_rfl) (by kernel_rfl) (by rfl) (fun _ _ _ h => h) (by rfl) (by intro w; go_simp; with_reducible rfl) hU (fun hU => ?_)
          try simp only [Act.put, List.setIfInBounds_toArray, List.set_cons_zero, List.set_cons_succ]
          obtain ⟨W, eW⟩ : ∃ W : World, W = wr.drew := ⟨_, rfl⟩
          rw [← eW] at hU hTd ⊢
          have hT := hTd
          have hB : Below w.heap.size w W := by rw [eW]; exact hb2.drew
          clear hTd hTM hb2 eW
          refine AnyS.branch (rs := [7, 14]) (by kernel_rfl) (by simp) (AllS.cons rfl (fun K hK => ?_) (AllS.cons rfl (fun K hK => ?_) AllS.nil))
          · skip
            go_simp
            obtain ⟨bN, ebN⟩ : ∃ t, t = W.heap.size := ⟨_, rfl⟩
            rw [← ebN]
            refine Shut.abs hK (fun W => TabM w.heap.size W w.heap.size vN vO vN vO rN rO (tabN m k) (tabO m k) (.slice (some ⟨g5, 0, none⟩) (i64s (nxR m k m.l)).length c5) (i64s (nxR m k m.l)) (.slice (some ⟨g6, 0, none⟩) (i64s (otR m k m.l)).length c6) (i64s (otR m k m.l)) ∧ Below w.heap.size w W ∧ TmpB W bN (.slice (some ⟨g5, 0, none⟩) (i64s (nxR m k m.l)).length c5) vN vO) ⟨hT.alloc _, hB.alloc hT.bs _, by rw [ebN]; exact hT.tmp _⟩ (fun W h => ⟨h.1.blk.cell' (by rfl), h.1.blk.cell' (by rfl)⟩) ?_
            clear hK K hT hB hU ebN 
            rintro W ⟨hT, hB, hbN⟩ hU
            refine AnyS.branch (rs := [8, 14]) (by kernel_rfl) (by simp) (AllS.cons rfl (fun K hK => ?_) (AllS.cons rfl (fun K hK => ?_) AllS.nil))
            · skip
              refine step_append_lies _ rfl (.tmp 44) (.tmp 46) 35 rfl w.heap.size 26 j0 (.slice none 0 0) 1 24 Try.underlying35 hj hy0 hy1 hy2 rfl (by decide) vN rN.length rN rfl hT.oN ⟨bN, 0, none⟩ 1 1 [(.slice (some ⟨g5, 0, none⟩) (i64s (nxR m k m.l)).length c5)] rfl rfl hbN.news (by simp [Value.oneCell']) (by omega) (by have := hT.rowsN.1; simp [tabN, tabO, maxLen] at this ⊢; omega) (by have := hT.rowsN.1; simp [tabN, tabO] at this; omega) hT.bs _ rfl ?_
              intro gN capN W1 hown hgrow hlies hltN
              obtain ⟨vN', evN⟩ : ∃ v, v = Value.slice (some ⟨gN, 0, none⟩) (rN.length + 1) capN := ⟨_, rfl⟩
              rw [← evN]
              refine Shut.abs hK (fun W => TabM w.heap.size W w.heap.size vN vO vN' vO (rN ++ [(.slice (some ⟨g5, 0, none⟩) (i64s (nxR m k m.l)).length c5)]) rO (tabN m k ++ [i64s (nxR m k m.l)]) (tabO m k) (.slice (some ⟨g5, 0, none⟩) (i64s (nxR m k m.l)).length c5) (i64s (nxR m k m.l)) (.slice (some ⟨g6, 0, none⟩) (i64s (otR m k m.l)).length c6) (i64s (otR m k m.l)) ∧ Below w.heap.size w W) ⟨hT.appN evN (by rw [evN]; exact hown) hgrow hlies, hT.belN hB hgrow⟩ (fun W h => ⟨h.1.blk.cell' (by rfl), h.1.blk.cell' (by rfl)⟩) ?_
              clear hK K hT hB hU hown hgrow hlies hltN hbN
              rintro W ⟨hT, hB⟩ hU
              refine AnyS.branch (rs := [14]) (by kernel_rfl) (by simp) (AllS.cons rfl (fun K hK => ?_) AllS.nil)
              · skip
                go_simp
                obtain ⟨bO, ebO⟩ : ∃ t, t = W.heap.size := ⟨_, rfl⟩
                rw [← ebO]
                refine Shut.abs hK (fun W => TabM w.heap.size W w.heap.size vN vO vN' vO (rN ++ [(.slice (some ⟨g5, 0, none⟩) (i64s (nxR m k m.l)).length c5)]) rO (tabN m k ++ [i64s (nxR m k m.l)]) (tabO m k) (.slice (some ⟨g5, 0, none⟩) (i64s (nxR m k m.l)).length c5) (i64s (nxR m k m.l)) (.slice (some ⟨g6, 0, none⟩) (i64s (otR m k m.l)).length c6) (i64s (otR m k m.l)) ∧ Below w.heap.size w W ∧ TmpB W bO (.slice (some ⟨g6, 0, none⟩) (i64s (otR m k m.l)).length c6) vN' vO) ⟨hT.alloc _, hB.alloc hT.bs _, by rw [ebO]; exact hT.tmp _⟩ (fun W h => ⟨h.1.blk.cell' (by rfl), h.1.blk.cell' (by rfl)⟩) ?_
                clear hK K hT hB hU ebO 
                rintro W ⟨hT, hB, hbO⟩ hU
                refine AnyS.branch (rs := [15]) (by kernel_rfl) (by simp) (AllS.cons rfl (fun K hK => ?_) AllS.nil)
                · skip
                  refine step_append_lies _ rfl (.tmp 51) (.tmp 53) 35 rfl w.heap.size 26 j0 (.slice none 0 0) 1 24 Try.underlying35 hj hy0 hy1 hy2 rfl (by decide) vO rO.length rO rfl hT.oO ⟨bO, 0, none⟩ 1 1 [(.slice (some ⟨g6, 0, none⟩) (i64s (otR m k m.l)).length c6)] rfl rfl hbO.news (by simp [Value.oneCell']) (by omega) (by have := hT.rowsO.1; simp [tabN, tabO, maxLen] at this ⊢; omega) (by have := hT.rowsO.1; simp [tabN, tabO] at this; omega) hT.bs _ rfl ?_
                  intro gO capO W1 hown hgrow hlies hltO
                  obtain ⟨vO', evO⟩ : ∃ v, v = Value.slice (some ⟨gO, 0, none⟩) (rO.length + 1) capO := ⟨_, rfl⟩
                  rw [← evO]
                  refine Shut.abs hK (fun W => TabM w.heap.size W w.heap.size vN vO vN' vO' (rN ++ [(.slice (some ⟨g5, 0, none⟩) (i64s (nxR m k m.l)).length c5)]) (rO ++ [(.slice (some ⟨g6, 0, none⟩) (i64s (otR m k m.l)).length c6)]) (tabN m k ++ [i64s (nxR m k m.l)]) (tabO m k ++ [i64s (otR m k m.l)]) (.slice (some ⟨g5, 0, none⟩) (i64s (nxR m k m.l)).length c5) (i64s (nxR m k m.l)) (.slice (some ⟨g6, 0, none⟩) (i64s (otR m k m.l)).length c6) (i64s (otR m k m.l)) ∧ Below w.heap.size w W) ⟨hT.appO evO (by rw [evO]; exact hown) hgrow hlies, hT.belO hB hgrow⟩ (fun W h => ⟨h.1.blk.cell' (by rfl), h.1.blk.cell' (by rfl)⟩) ?_
                  clear hK K hT hB hU hown hgrow hlies hltO hbO
                  rintro W ⟨hT, hB⟩ hU
                  refine AnyS.take (i := 16) rfl (by kernel_rfl) (by kernel_rfl) (by kernel_rfl) (by rfl) (fun _ _ _ h => h) (by rfl) (by intro w; go_simp; with_reducible rfl) hU (fun hU => ?_)
                  try simp only [Act.put, List.setIfInBounds_toArray, List.set_cons_zero, List.set_cons_succ]
                  refine AnyS.take (i := 17) rfl (by kernel_rfl) (by kernel_rfl) (by kernel_rfl) (by rfl) (fun _ _ _ h => h) (by rfl) (by intro w; go_simp; with_reducible rfl) hU (fun hU => ?_)
                  try simp only [Act.put, List.setIfInBounds_toArray, List.set_cons_zero, List.set_cons_succ]
                  refine AnyS.branch (rs := [18]) (by kernel_rfl) (by simp) (AllS.cons rfl (fun K hK => ?_) AllS.nil)
                  have c0 : W.cell? ⟨w.heap.size, 0, none⟩ = some vN := hT.blk.cell' rfl
                  have f0 := hT.blk.free 0
                  subst evN evO
                  go_simp
                  refine hK.out _ _ (.inr ⟨18, by simp, by rfl⟩) (fun hU => ?_)
                  clear hK K c0 f0
                  refine AnyS.take (i := 19) rfl (by kernel_rfl) (by kernel_rfl) (by kernel_rfl) (by rfl) (fun _ _ _ h => h) (by rfl) (by intro w; go_simp; with_reducible rfl) hU (fun hU => ?_)
                  try simp only [Act.put, List.setIfInBounds_toArray, List.set_cons_zero, List.set_cons_succ]
                  refine AnyS.take (i := 20) rfl (by kernel_rfl) (by kernel_rfl) (by kernel_rfl) (by rfl) (fun _ _ _ h => h) (by rfl) (by intro w; go_simp; with_reducible rfl) hU (fun hU => ?_)
                  try simp only [Act.put, List.setIfInBounds_toArray, List.set_cons_zero, List.set_cons_succ]
                  refine AnyS.branch (rs := [21]) (by kernel_rfl) (by simp) (AllS.cons rfl (fun K hK => ?_) AllS.nil)
                  have h1 := hT.blk.setCell 0 (.slice (some ⟨gN, 0, none⟩) (rN.length + 1) capN)
                  have c1 : (W.setCell ⟨w.heap.size, 0, none⟩ (.slice (some ⟨gN, 0, none⟩) (rN.length + 1) capN)).cell? ⟨w.heap.size, 1, none⟩ = some vO := h1.cell' rfl
                  have f1 := h1.free 1
                  go_simp
                  refine hK.out _ _ (.inr ⟨18, by simp, by rfl⟩) (fun hU => ?_)
                  clear hK K c1 f1 hU h1
                  refine AnyS.done (by kernel_rfl) ?_ _
                  have hTE := hT.store.tab
                  rw [← tabN_succ, ← tabO_succ] at hTE
                  have hBE := (hB.setCell (p := ⟨w.heap.size, 0, none⟩) (Nat.le_refl _) (.slice (some ⟨gN, 0, none⟩) (rN.length + 1) capN)).setCell (p := ⟨w.heap.size, 1, none⟩) (Nat.le_refl _) (.slice (some ⟨gO, 0, none⟩) (rO.length + 1) capO)
                  clear hT hB
                  go_wp2
                  go_roundw
                  case rel => exact ⟨k + 1, by omega, by go_num, hBE, hTE⟩
                  case measure => simp [intOf]; omega
            · skip
              go_simp
              obtain ⟨bO, ebO⟩ : ∃ t, t = W.heap.size := ⟨_, rfl⟩
              rw [← ebO]
              refine Shut.abs hK (fun W => TabM w.heap.size W w.heap.size vN vO vN vO rN rO (tabN m k) (tabO m k) (.slice (some ⟨g5, 0, none⟩) (i64s (nxR m k m.l)).length c5) (i64s (nxR m k m.l)) (.slice (some ⟨g6, 0, none⟩) (i64s (otR m k m.l)).length c6) (i64s (otR m k m.l)) ∧ Below w.heap.size w W ∧ TmpB W bN (.slice (some ⟨g5, 0, none⟩) (i64s (nxR m k m.l)).length c5) vN vO ∧ TmpB W bO (.slice (some ⟨g6, 0, none⟩) (i64s (otR m k m.l)).length c6) vN vO) ⟨hT.alloc _, hB.alloc hT.bs _, hbN.alloc _, by rw [ebO]; exact hT.tmp _⟩ (fun W h => ⟨h.1.blk.cell' (by rfl), h.1.blk.cell' (by rfl)⟩) ?_
              clear hK K hT hB hU ebO hbN
              rintro W ⟨hT, hB, hbN, hbO⟩ hU
              refine AnyS.branch (rs := [8]) (by kernel_rfl) (by simp) (AllS.cons rfl (fun K hK => ?_) AllS.nil)
              · skip
                refine step_append_lies _ rfl (.tmp 44) (.tmp 46) 35 rfl w.heap.size 26 j0 (.slice none 0 0) 1 24 Try.underlying35 hj hy0 hy1 hy2 rfl (by decide) vN rN.length rN rfl hT.oN ⟨bN, 0, none⟩ 1 1 [(.slice (some ⟨g5, 0, none⟩) (i64s (nxR m k m.l)).length c5)] rfl rfl hbN.news (by simp [Value.oneCell']) (by omega) (by have := hT.rowsN.1; simp [tabN, tabO, maxLen] at this ⊢; omega) (by have := hT.rowsN.1; simp [tabN, tabO] at this; omega) hT.bs _ rfl ?_
                intro gN capN W1 hown hgrow hlies hltN
                obtain ⟨vN', evN⟩ : ∃ v, v = Value.slice (some ⟨gN, 0, none⟩) (rN.length + 1) capN := ⟨_, rfl⟩
                rw [← evN]
                refine Shut.abs hK (fun W => TabM w.heap.size W w.heap.size vN vO vN' vO (rN ++ [(.slice (some ⟨g5, 0, none⟩) (i64s (nxR m k m.l)).length c5)]) rO (tabN m k ++ [i64s (nxR m k m.l)]) (tabO m k) (.slice (some ⟨g5, 0, none⟩) (i64s (nxR m k m.l)).length c5) (i64s (nxR m k m.l)) (.slice (some ⟨g6, 0, none⟩) (i64s (otR m k m.l)).length c6) (i64s (otR m k m.l)) ∧ Below w.heap.size w W ∧ TmpB W bO (.slice (some ⟨g6, 0, none⟩) (i64s (otR m k m.l)).length c6) vN' vO) ⟨hT.appN evN (by rw [evN]; exact hown) hgrow hlies, hT.belN hB hgrow, by rw [evN]; exact hbO.appN hgrow hlies⟩ (fun W h => ⟨h.1.blk.cell' (by rfl), h.1.blk.cell' (by rfl)⟩) ?_
                clear hK K hT hB hU hown hgrow hlies hltN hbN hbO
                rintro W ⟨hT, hB, hbO⟩ hU
                refine AnyS.branch (rs := [15]) (by kernel_rfl) (by simp) (AllS.cons rfl (fun K hK => ?_) AllS.nil)
                · skip
                  refine step_append_lies _ rfl (.tmp 51) (.tmp 53) 35 rfl w.heap.size 26 j0 (.slice none 0 0) 1 24 Try.underlying35 hj hy0 hy1 hy2 rfl (by decide) vO rO.length rO rfl hT.oO ⟨bO, 0, none⟩ 1 1 [(.slice (some ⟨g6, 0, none⟩) (i64s (otR m k m.l)).length c6)] rfl rfl hbO.news (by simp [Value.oneCell']) (by omega) (by have := hT.rowsO.1; simp [tabN, tabO, maxLen] at this ⊢; omega) (by have := hT.rowsO.1; simp [tabN, tabO] at this; omega) hT.bs _ rfl ?_
                  intro gO capO W1 hown hgrow hlies hltO
                  obtain ⟨vO', evO⟩ : ∃ v, v = Value.slice (some ⟨gO, 0, none⟩) (rO.length + 1) capO := ⟨_, rfl⟩
                  rw [← evO]
                  refine Shut.abs hK (fun W => TabM w.heap.size W w.heap.size vN vO vN' vO' (rN ++ [(.slice (some ⟨g5, 0, none⟩) (i64s (nxR m k m.l)).length c5)]) (rO ++ [(.slice (some ⟨g6, 0, none⟩) (i64s (otR m k m.l)).length c6)]) (tabN m k ++ [i64s (nxR m k m.l)]) (tabO m k ++ [i64s (otR m k m.l)]) (.slice (some ⟨g5, 0, none⟩) (i64s (nxR m k m.l)).length c5) (i64s (nxR m k m.l)) (.slice (some ⟨g6, 0, none⟩) (i64s (otR m k m.l)).length c6) (i64s (otR m k m.l)) ∧ Below w.heap.size w W) ⟨hT.appO evO (by rw [evO]; exact hown) hgrow hlies, hT.belO hB hgrow⟩ (fun W h => ⟨h.1.blk.cell' (by rfl), h.1.blk.cell' (by rfl)⟩) ?_
                  clear hK K hT hB hU hown hgrow hlies hltO hbO
                  rintro W ⟨hT, hB⟩ hU
                  refine AnyS.take (i := 16) rfl (by kernel_rfl) (by kernel_rfl) (by kernel_rfl) (by rfl) (fun _ _ _ h => h) (by rfl) (by intro w; go_simp; with_reducible rfl) hU (fun hU => ?_)
                  try simp only [Act.put, List.setIfInBounds_toArray, List.set_cons_zero, List.set_cons_succ]
                  refine AnyS.take (i := 17) rfl (by kernel_rfl) (by kernel_rfl) (by kernel_rfl) (by rfl) (fun _ _ _ h => h) (by rfl) (by intro w; go_simp; with_reducible rfl) hU (fun hU => ?_)
                  try simp only [Act.put, List.setIfInBounds_toArray, List.set_cons_zero, List.set_cons_succ]
                  refine AnyS.branch (rs := [18]) (by kernel_rfl) (by simp) (AllS.cons rfl (fun K hK => ?_) AllS.nil)
                  have c0 : W.cell? ⟨w.heap.size, 0, none⟩ = some vN := hT.blk.cell' rfl
                  have f0 := hT.blk.free 0
                  subst evN evO
                  go_simp
                  refine hK.out _ _ (.inr ⟨18, by simp, by rfl⟩) (fun hU => ?_)
                  clear hK K c0 f0
                  refine AnyS.take (i := 19) rfl (by kernel_rfl) (by kernel_rfl) (by kernel_rfl) (by rfl) (fun _ _ _ h => h) (by rfl) (by intro w; go_simp; with_reducible rfl) hU (fun hU => ?_)
                  try simp only [Act.put, List.setIfInBounds_toArray, List.set_cons_zero, List.set_cons_succ]
                  refine AnyS.take (i := 20) rfl (by kernel_rfl) (by kernel_rfl) (by kernel_rfl) (by rfl) (fun _ _ _ h => h) (by rfl) (by intro w; go_simp; with_reducible rfl) hU (fun hU => ?_)
                  try simp only [Act.put, List.setIfInBounds_toArray, List.set_cons_zero, List.set_cons_succ]
                  refine AnyS.branch (rs := [21]) (by kernel_rfl) (by simp) (AllS.cons rfl (fun K hK => ?_) AllS.nil)
                  have h1 := hT.blk.setCell 0 (.slice (some ⟨gN, 0, none⟩) (rN.length + 1) capN)
                  have c1 : (W.setCell ⟨w.heap.size, 0, none⟩ (.slice (some ⟨gN, 0, none⟩) (rN.length + 1) capN)).cell? ⟨w.heap.size, 1, none⟩ = some vO := h1.cell' rfl
                  have f1 := h1.free 1
                  go_simp
                  refine hK.out _ _ (.inr ⟨18, by simp, by rfl⟩) (fun hU => ?_)
                  clear hK K c1 f1 hU h1
                  refine AnyS.done (by kernel_rfl) ?_ _
                  have hTE := hT.store.tab
                  rw [← tabN_succ, ← tabO_succ] at hTE
                  have hBE := (hB.setCell (p := ⟨w.heap.size, 0, none⟩) (Nat.le_refl _) (.slice (some ⟨gN, 0, none⟩) (rN.length + 1) capN)).setCell (p := ⟨w.heap.size, 1, none⟩) (Nat.le_refl _) (.slice (some ⟨gO, 0, none⟩) (rO.length + 1) capO)
                  clear hT hB
                  go_wp2
                  go_roundw
                  case rel => exact ⟨k + 1, by omega, by go_num, hBE, hTE⟩
                  case measure => simp [intOf]; omega
          · skip
            go_simp
            obtain ⟨bO, ebO⟩ : ∃ t, t = W.heap.size := ⟨_, rfl⟩
            rw [← ebO]
            refine Shut.abs hK (fun W => TabM w.heap.size W w.heap.size vN vO vN vO rN rO (tabN m k) (tabO m k) (.slice (some ⟨g5, 0, none⟩) (i64s (nxR m k m.l)).length c5) (i64s (nxR m k m.l)) (.slice (some ⟨g6, 0, none⟩) (i64s (otR m k m.l)).length c6) (i64s (otR m k m.l)) ∧ Below w.heap.size w W ∧ TmpB W bO (.slice (some ⟨g6, 0, none⟩) (i64s (otR m k m.l)).length c6) vN vO) ⟨hT.alloc _, hB.alloc hT.bs _, by rw [ebO]; exact hT.tmp _⟩ (fun W h => ⟨h.1.blk.cell' (by rfl), h.1.blk.cell' (by rfl)⟩) ?_
            clear hK K hT hB hU ebO 
            rintro W ⟨hT, hB, hbO⟩ hU
            refine AnyS.branch (rs := [7]) (by kernel_rfl) (by simp) (AllS.cons rfl (fun K hK => ?_) AllS.nil)
            · skip
              go_simp
              obtain ⟨bN, ebN⟩ : ∃ t, t = W.heap.size := ⟨_, rfl⟩
              rw [← ebN]
              refine Shut.abs hK (fun W => TabM w.heap.size W w.heap.size vN vO vN vO rN rO (tabN m k) (tabO m k) (.slice (some ⟨g5, 0, none⟩) (i64s (nxR m k m.l)).length c5) (i64s (nxR m k m.l)) (.slice (some ⟨g6, 0, none⟩) (i64s (otR m k m.l)).length c6) (i64s (otR m k m.l)) ∧ Below w.heap.size w W ∧ TmpB W bO (.slice (some ⟨g6, 0, none⟩) (i64s (otR m k m.l)).length c6) vN vO ∧ TmpB W bN (.slice (some ⟨g5, 0, none⟩) (i64s (nxR m k m.l)).length c5) vN vO) ⟨hT.alloc _, hB.alloc hT.bs _, hbO.alloc _, by rw [ebN]; exact hT.tmp _⟩ (fun W h => ⟨h.1.blk.cell' (by rfl), h.1.blk.cell' (by rfl)⟩) ?_
              clear hK K hT hB hU ebN hbO
              rintro W ⟨hT, hB, hbO, hbN⟩ hU
              refine AnyS.branch (rs := [8]) (by kernel_rfl) (by simp) (AllS.cons rfl (fun K hK => ?_) AllS.nil)
              · skip
                refine step_append_lies _ rfl (.tmp 44) (.tmp 46) 35 rfl w.heap.size 26 j0 (.slice none 0 0) 1 24 Try.underlying35 hj hy0 hy1 hy2 rfl (by decide) vN rN.length rN rfl hT.oN ⟨bN, 0, none⟩ 1 1 [(.slice (some ⟨g5, 0, none⟩) (i64s (nxR m k m.l)).length c5)] rfl rfl hbN.news (by simp [Value.oneCell']) (by omega) (by have := hT.rowsN.1; simp [tabN, tabO, maxLen] at this ⊢; omega) (by have := hT.rowsN.1; simp [tabN, tabO] at this; omega) hT.bs _ rfl ?_
                intro gN capN W1 hown hgrow hlies hltN
                obtain ⟨vN', evN⟩ : ∃ v, v = Value.slice (some ⟨gN, 0, none⟩) (rN.length + 1) capN := ⟨_, rfl⟩
                rw [← evN]
                refine Shut.abs hK (fun W => TabM w.heap.size W w.heap.size vN vO vN' vO (rN ++ [(.slice (some ⟨g5, 0, none⟩) (i64s (nxR m k m.l)).length c5)]) rO (tabN m k ++ [i64s (nxR m k m.l)]) (tabO m k) (.slice (some ⟨g5, 0, none⟩) (i64s (nxR m k m.l)).length c5) (i64s (nxR m k m.l)) (.slice (some ⟨g6, 0, none⟩) (i64s (otR m k m.l)).length c6) (i64s (otR m k m.l)) ∧ Below w.heap.size w W ∧ TmpB W bO (.slice (some ⟨g6, 0, none⟩) (i64s (otR m k m.l)).length c6) vN' vO) ⟨hT.appN evN (by rw [evN]; exact hown) hgrow hlies, hT.belN hB hgrow, by rw [evN]; exact hbO.appN hgrow hlies⟩ (fun W h => ⟨h.1.blk.cell' (by rfl), h.1.blk.cell' (by rfl)⟩) ?_
                clear hK K hT hB hU hown hgrow hlies hltN hbO hbN
                rintro W ⟨hT, hB, hbO⟩ hU
                refine AnyS.branch (rs := [15]) (by kernel_rfl) (by simp) (AllS.cons rfl (fun K hK => ?_) AllS.nil)
                · skip
                  refine step_append_lies _ rfl (.tmp 51) (.tmp 53) 35 rfl w.heap.size 26 j0 (.slice none 0 0) 1 24 Try.underlying35 hj hy0 hy1 hy2 rfl (by decide) vO rO.length rO rfl hT.oO ⟨bO, 0, none⟩ 1 1 [(.slice (some ⟨g6, 0, none⟩) (i64s (otR m k m.l)).length c6)] rfl rfl hbO.news (by simp [Value.oneCell']) (by omega) (by have := hT.rowsO.1; simp [tabN, tabO, maxLen] at this ⊢; omega) (by have := hT.rowsO.1; simp [tabN, tabO] at this; omega) hT.bs _ rfl ?_
                  intro gO capO W1 hown hgrow hlies hltO
                  obtain ⟨vO', evO⟩ : ∃ v, v = Value.slice (some ⟨gO, 0, none⟩) (rO.length + 1) capO := ⟨_, rfl⟩
                  rw [← evO]
                  refine Shut.abs hK (fun W => TabM w.heap.size W w.heap.size vN vO vN' vO' (rN ++ [(.slice (some ⟨g5, 0, none⟩) (i64s (nxR m k m.l)).length c5)]) (rO ++ [(.slice (some ⟨g6, 0, none⟩) (i64s (otR m k m.l)).length c6)]) (tabN m k ++ [i64s (nxR m k m.l)]) (tabO m k ++ [i64s (otR m k m.l)]) (.slice (some ⟨g5, 0, none⟩) (i64s (nxR m k m.l)).length c5) (i64s (nxR m k m.l)) (.slice (some ⟨g6, 0, none⟩) (i64s (otR m k m.l)).length c6) (i64s (otR m k m.l)) ∧ Below w.heap.size w W) ⟨hT.appO evO (by rw [evO]; exact hown) hgrow hlies, hT.belO hB hgrow⟩ (fun W h => ⟨h.1.blk.cell' (by rfl), h.1.blk.cell' (by rfl)⟩) ?_
                  clear hK K hT hB hU hown hgrow hlies hltO hbO
                  rintro W ⟨hT, hB⟩ hU
                  refine AnyS.take (i := 16) rfl (by kernel_rfl) (by kernel_rfl) (by kernel_rfl) (by rfl) (fun _ _ _ h => h) (by rfl) (by intro w; go_simp; with_reducible rfl) hU (fun hU => ?_)
                  try simp only [Act.put, List.setIfInBounds_toArray, List.set_cons_zero, List.set_cons_succ]
                  refine AnyS.take (i := 17) rfl (by kernel_rfl) (by kernel_rfl) (by kernel_rfl) (by rfl) (fun _ _ _ h => h) (by rfl) (by intro w; go_simp; with_reducible rfl) hU (fun hU => ?_)
                  try simp only [Act.put, List.setIfInBounds_toArray, List.set_cons_zero, List.set_cons_succ]
                  refine AnyS.branch (rs := [18]) (by kernel_rfl) (by simp) (AllS.cons rfl (fun K hK => ?_) AllS.nil)
                  have c0 : W.cell? ⟨w.heap.size, 0, none⟩ = some vN := hT.blk.cell' rfl
                  have f0 := hT.blk.free 0
                  subst evN evO
                  go_simp
                  refine hK.out _ _ (.inr ⟨18, by simp, by rfl⟩) (fun hU => ?_)
                  clear hK K c0 f0
                  refine AnyS.take (i := 19) rfl (by kernel_rfl) (by kernel_rfl) (by kernel_rfl) (by rfl) (fun _ _ _ h => h) (by rfl) (by intro w; go_simp; with_reducible rfl) hU (fun hU => ?_)
                  try simp only [Act.put, List.setIfInBounds_toArray, List.set_cons_zero, List.set_cons_succ]
                  refine AnyS.take (i := 20) rfl (by kernel_rfl) (by kernel_rfl) (by kernel_rfl) (by rfl) (fun _ _ _ h => h) (by rfl) (by intro w; go_simp; with_reducible rfl) hU (fun hU => ?_)
                  try simp only [Act.put, List.setIfInBounds_toArray, List.set_cons_zero, List.set_cons_succ]
                  refine AnyS.branch (rs := [21]) (by kernel_rfl) (by simp) (AllS.cons rfl (fun K hK => ?_) AllS.nil)
                  have h1 := hT.blk.setCell 0 (.slice (some ⟨gN, 0, none⟩) (rN.length + 1) capN)
                  have c1 : (W.setCell ⟨w.heap.size, 0, none⟩ (.slice (some ⟨gN, 0, none⟩) (rN.length + 1) capN)).cell? ⟨w.heap.size, 1, none⟩ = some vO := h1.cell' rfl
                  have f1 := h1.free 1
                  go_simp
                  refine hK.out _ _ (.inr ⟨18, by simp, by rfl⟩) (fun hU => ?_)
                  clear hK K c1 f1 hU h1
                  refine AnyS.done (by kernel_rfl) ?_ _
                  have hTE := hT.store.tab
                  rw [← tabN_succ, ← tabO_succ] at hTE
                  have hBE := (hB.setCell (p := ⟨w.heap.size, 0, none⟩) (Nat.le_refl _) (.slice (some ⟨gN, 0, none⟩) (rN.length + 1) capN)).setCell (p := ⟨w.heap.size, 1, none⟩) (Nat.le_refl _) (.slice (some ⟨gO, 0, none⟩) (rO.length + 1) capO)
                  clear hT hB
                  go_wp2
                  go_roundw
                  case rel => exact ⟨k + 1, by omega, by go_num, hBE, hTE⟩
                  case measure => simp [intOf]; omega
    · have hk' : k = m.s := by omega
      subst hk'
      clear hmr
      go_wp2
      go_ret
      exact ⟨_, rfl, hbr, hT⟩
end Go.Proofs.Yteagecoiijhflaa

/- The program's rounds for trivial states: no program in sight. -/
namespace Go.Proofs.Yteagecoiijhflaa
set_option linter.unusedVariables false
set_option linter.unusedSimpArgs false

/-- the rounds: what is trivial stays; what stays keeps its letters; if nothing has turned in this round so far ('again' is false), what stays among the first j goes on to what stays -/
structure PInv (m : Mch) (tv : Nat → Bool) (again : Bool) (j : Nat) : Prop where
  keep : ∀ q, q < m.s → Triv m q → tv q = true
  outs : ∀ q, q < m.s → tv q = true → ∀ x, x < m.l → m.on q x = x
  none : ∀ q, m.s ≤ q → tv q = false
  still : again = false → ∀ q, q < j → q < m.s → tv q = true → ∀ x, x < m.l → tv (m.nn q x) = true

/-- the first pass: k states done -/
def fstP (m : Mch) (k : Nat) : Nat → Bool := fun q => decide (q < k) && decide (q < m.s) && (List.range m.l).all fun x => m.on q x == x
/-- the first pass: x letters of state k done -/
def fstX (m : Mch) (k x : Nat) : Nat → Bool := upd (fstP m k) k ((List.range x).all fun y => m.on k y == y)
theorem fstX_zero (m : Mch) (k : Nat) : upd (fstP m k) k true = fstX m k 0 := by simp [fstX]
theorem fstX_succ (m : Mch) (k x : Nat) : upd (fstX m k x) k (fstX m k x k && (m.on k x == x)) = fstX m k (x + 1) := by
  funext q
  simp only [fstX, upd, List.range_succ, List.all_append]
  split <;> simp
theorem fstX_fin (m : Mch) {k : Nat} (hk : k < m.s) : fstX m k m.l = fstP m (k + 1) := by
  funext q
  simp only [fstX, upd, fstP]
  by_cases h : q = k
  · subst h; simp [hk]
  · rw [if_neg h]
    congr 2
    simp only [decide_eq_decide]; omega
theorem PInv.start (m : Mch) : PInv m (fstP m m.s) true 0 := by
  refine ⟨fun q hq ht => ?_, fun q hq ht x hx => ?_, fun q hq => ?_, fun h => by cases h⟩
  · simp only [fstP, hq, decide_true, Bool.true_and, List.all_eq_true, List.mem_range, beq_iff_eq]
    exact fun x hx => ht.out hx
  · simp only [fstP, hq, decide_true, Bool.true_and, List.all_eq_true, List.mem_range, beq_iff_eq] at ht
    exact ht x hx
  · simp only [fstP]; simp; omega
theorem PInv.begin {m : Mch} {tv : Nat → Bool} {a : Bool} {j : Nat} (h : PInv m tv a j) : PInv m tv false 0 := ⟨h.keep, h.outs, h.none, fun _ q hq => by omega⟩
/-- a state that goes on to one that is not trivial is taken out -/
theorem PInv.out {m : Mch} (hok : m.Ok) (hwf : m.Wf) {tv : Nat → Bool} {a : Bool} {j : Nat} (h : PInv m tv a j) (hj : j < m.s) {x : Nat} (hx : x < m.l) (hn : tv (m.nn j x) = false) : PInv m (upd tv j false) true (j + 1) := by
  refine ⟨fun q hq ht => ?_, fun q hq ht => ?_, fun q hq => ?_, fun e => by cases e⟩
  · simp only [upd]
    split
    · rename_i e; subst e
      have := h.keep _ (hok.nn_lt hwf hq hx) (ht.next hx)
      rw [hn] at this; cases this
    · exact h.keep q hq ht
  · simp only [upd] at ht
    split at ht
    · cases ht
    · exact h.outs q hq ht
  · simp only [upd]; split; rfl; exact h.none q hq
theorem PInv.pass {m : Mch} {tv : Nat → Bool} {a : Bool} {j : Nat} (h : PInv m tv a j) (hn : tv j = true → ∀ x, x < m.l → tv (m.nn j x) = true) : PInv m tv a (j + 1) :=
  ⟨h.keep, h.outs, h.none, fun e q hq hs ht => by
    by_cases hqj : q = j
    · subst hqj; exact hn ht
    · exact h.still e q (by omega) hs ht⟩
theorem PInv.fin {m : Mch} (hok : m.Ok) (hwf : m.Wf) {tv : Nat → Bool} (h : PInv m tv false m.s) : tv = trivB m := by
  funext q
  by_cases hq : q < m.s
  · rw [Bool.eq_iff_iff, trivB_iff hok hwf hq]
    exact ⟨fun ht => triv_of_closed hok hwf tv (fun q hq hp x hx => ⟨h.outs q hq hp x hx, h.still rfl q hq hq hp x hx⟩) q hq ht, h.keep q hq⟩
  · rw [h.none q (by omega)]
    simp [trivB, hq]
/-- how many stay -/
def cntT (n : Nat) (tv : Nat → Bool) : Nat := ((List.range n).filter tv).length
theorem cntT_upd {n : Nat} {tv : Nat → Bool} {j : Nat} (hj : j < n) (ht : tv j = true) : cntT n (upd tv j false) < cntT n tv :=
  filter_len_lt _ (fun q _ h => by simp only [upd] at h; split at h; cases h; exact h) ⟨j, by simpa using hj, ht, by simp [upd]⟩
end Go.Proofs.Yteagecoiijhflaa
